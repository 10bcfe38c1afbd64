/-
  The predicate transformer is sound for all of a function's code.
-/
import Derived.Test.YtaffnlibmkcgiaaGreatSxM
import Derived.RangeFuncRecord
namespace Go.Sx
open Go

variable {P : Program} {σ σ' : Env} {nt : Nat} {ds : List Deferred}

theorem Lift.trans {w w1 : World} {Q : Post} (hb : SameB w w1) {e : Exit} {a : Act} {w2 : World} (h : Lift nt w1 Q e a w2) : Lift nt w Q e a w2 := by
  obtain ⟨σ, ds, h1, h2, h3⟩ := h
  exact ⟨σ, ds, h1, hb.trans h2, h3⟩

theorem region_sound {ops : Array Oper} {l : List SOper} {draw : Bool} (hm : P.follows .mixedOrders = true) (hc : cregion P nt ops draw = some l)
    {ro : Option Nat} {n id : Nat} {Q : Post} {a : Act} {w : World} (hr : Rel σ nt ds a)
    (h : sops P (fun ch h' => Q (.panic ch) (hide l σ) ds h') (fun σ' h' => Q .normal σ' ds h') l σ w.heap) :
    (Code.region id ops draw).wpIn (FW ro) n P (Lift nt w Q) a w := by
  unfold cregion at hc
  split at hc
  · simp at hc
  · rename_i ss hss
    obtain ⟨hlen, hget⟩ := coperAll_get ops.toList ss hss
    have hlen' : ss.length = ops.size := by simpa using hlen
    have good : ∀ (i : Nat) (s : SOper), ss[i]? = some s → Good P ops nt i s := by
      intro i s hi
      have hlt : i < ops.size := by rw [← hlen']; exact (List.getElem?_eq_some_iff.1 hi).1
      obtain ⟨s2, h2, h3⟩ := hget i ops[i] (by simp [hlt])
      rw [hi] at h2; simp at h2; subst h2
      exact ⟨ops[i], s, by simp [hlt], h3, .inl rfl⟩
    split at hc
    · simp at hc; subst hc
      refine wpIn_region ?_
      have e : (List.range ops.size).zip ss = (List.range ops.size).zip ss := rfl
      have e1 : ((List.range ops.size).zip ss).map (·.1) = List.range ops.size := map_zip_fst _ _ (by simp [hlen'])
      have e2 : ((List.range ops.size).zip ss).map (·.2) = ss := map_zip_snd _ _ (by simp [hlen'])
      have := list_sound (P := P) (ops := ops) (nt := nt) (ds := ds) (Qp := fun ch h' => Q (.panic ch) (hide ss σ) ds h') (K := fun σ' h' => Q .normal σ' ds h') (τ := hide ss σ) (ro := ro) (n := n) (Q := Lift nt w Q) (w0 := w)
        (fun σ' a' w' hr' hb hk => ⟨σ', ds, hr', hb, hk⟩) (fun ch a' w' hτ hb hk => ⟨_, ds, hτ, hb, hk⟩) ((List.range ops.size).zip ss) σ a w ?_ ?_ hr (hr.sub (hide_sub ss)) (SameB.refl w) (by rw [e2]; exact h)
      · rw [e1] at this; exact this
      · rintro ⟨i, s⟩ hp
        obtain ⟨k, hk, hkq⟩ := List.getElem_of_mem hp
        rw [List.getElem_zip] at hkq
        simp at hkq
        have hks : k < ss.length := by simp at hk; omega
        exact good i s (by rw [← hkq.1, List.getElem?_eq_getElem hks, hkq.2])
      · rintro ⟨i, s⟩ hp d hd
        exact hide_dst (List.of_mem_zip hp).2 hd
    · split at hc
      · rename_i l' hl
        simp at hc; subst hc
        exact ordered_sound hm hlen' good hl hr h
      · rename_i hnone
        refine ordered_sound (ss := ss.map calm1) hm (by simp [hlen']) ?_ hc hr h
        intro i s hi
        rw [List.getElem?_map] at hi
        cases hs : ss[i]? with
        | none => rw [hs] at hi; simp at hi
        | some s2 =>
          rw [hs] at hi; simp at hi; subst hi
          obtain ⟨o, s0, h1, h2, h3⟩ := good i s2 hs
          rcases h3 with rfl | rfl
          · exact ⟨o, s2, h1, h2, .inr rfl⟩
          · refine ⟨o, s0, h1, h2, .inr ?_⟩
            cases hop : s0.op <;> simp [calm1, hop]

theorem region2_sound {ops : Array Oper} {sp s1 s2 : List SOper} (hm : P.follows .mixedOrders = true) (hc : cregion2 P nt ops = some (sp, s1, s2))
    {ro : Option Nat} {n id : Nat} {Q : Post} {a : Act} {w : World} (hr : Rel σ nt ds a)
    (h : swp P (.two sp s1 s2) Q σ ds w.heap) :
    (Code.region id ops true).wpIn (FW ro) n P (Lift nt w Q) a w := by
  unfold cregion2 at hc
  split at hc
  · simp at hc
  · rename_i ss hss
    obtain ⟨hlen, hget⟩ := coperAll_get ops.toList ss hss
    have hlen' : ss.length = ops.size := by simpa using hlen
    have good : ∀ (i : Nat) (s : SOper), ss[i]? = some s → Good P ops nt i s := by
      intro i s hi
      have hlt : i < ops.size := by rw [← hlen']; exact (List.getElem?_eq_some_iff.1 hi).1
      obtain ⟨s2, h2, h3⟩ := hget i ops[i] (by simp [hlt])
      rw [hi] at h2; simp at h2; subst h2
      exact ⟨ops[i], s, by simp [hlt], h3, .inl rfl⟩
    refine ordered2_sound (ss := ss.map calm1) hm (by simp [hlen']) ?_ hc hr h
    intro i s hi
    rw [List.getElem?_map] at hi
    cases hs : ss[i]? with
    | none => rw [hs] at hi; simp at hi
    | some s2 =>
      rw [hs] at hi; simp at hi; subst hi
      obtain ⟨o, s0, h1, h2, h3⟩ := good i s2 hs
      rcases h3 with rfl | rfl
      · exact ⟨o, s2, h1, h2, .inr rfl⟩
      · refine ⟨o, s0, h1, h2, .inr ?_⟩
        cases hop : s0.op <;> simp [calm1, hop]

theorem wpIn_loopN {F : Fence} {n : Nat} {Q : Exit → Act → World → Prop} {c : Code} (I : Nat → Act → World → Prop) {m : Nat} {a : Act} {w : World} (h₀ : I m a w)
    (round : ∀ m a w, I m a w → c.wpIn F n P (Exit.then (fun a' w' => ∃ m', m' < m ∧ I m' a' w') Q) a w) : (Code.loop c).wpIn F n P Q a w := by
  intro b k cs hro hb hr
  have key : ∀ j a w, I j a w →
      ∃ e a' w', Q e a' w' ∧ ArrivesIn (Machine.fenced P F) P (lone (b.atR a (.code c :: .inLoop c :: k)) cs w) b k cs e a' w' := by
    intro j
    induction j using Nat.strongRecOn with
    | _ j ih =>
      intro a w hI
      obtain ⟨e, a₁, w₁, hq, harr⟩ := round j a w hI b (.inLoop c :: k) cs hro hb hr
      cases e with
      | normal =>
        obtain ⟨m', hlt, hI₁⟩ := hq
        obtain ⟨e₂, a₂, w₂, hq₂, harr₂⟩ := ih m' hlt a₁ w₁ hI₁
        exact ⟨e₂, a₂, w₂, hq₂, .of_steps (StepsIn.trans harr (.one (fenced_calm hb hr rfl) stepR_inLoop)) harr₂⟩
      | exit id => exact ⟨_, a₁, w₁, hq, .pass (x := .inLoop c) rfl (fun _ _ => .inl (by simp)) harr⟩
      | goto l => exact ⟨_, a₁, w₁, hq, .pass (x := .inLoop c) rfl (fun _ _ => .inl (by simp)) harr⟩
      | ret => exact ⟨_, a₁, w₁, hq, .pass (x := .inLoop c) rfl (fun _ _ => .inl (by simp)) harr⟩
      | panic ch => exact ⟨_, a₁, w₁, hq, .pass (x := .inLoop c) rfl (fun _ _ => .inl (by simp)) harr⟩
      | outgrown => exact ⟨_, a₁, w₁, hq, .pass (x := .inLoop c) rfl (fun _ _ => .inl (by simp)) harr⟩
  obtain ⟨e, a', w', hq, harr⟩ := key m a w h₀
  exact ⟨e, a', w', hq, .of_steps (.one (fenced_calm hb hr rfl) stepR_loop) harr⟩

section
variable {b : Frame} {a : Act} {k : List Item} {cs : List Frame} {w : World}
theorem stepR_scope {c : Code} : step P (lone (b.atR a (.code (.scope c) :: k)) cs w) = .next (lone (b.atR a (.code c :: .inScope c :: k)) cs w) :=
  step_lone_go (by simp [stepG, stepG.exec, Frame.atR])
theorem stepR_inScope {c : Code} : step P (lone (b.atR a (.inScope c :: k)) cs w) = .next (lone (b.atR a k) cs w) :=
  step_lone_go (by simp [stepG, stepG.exec, Frame.atR])
end

def noGo (Q : Exit → Act → World → Prop) : Exit → Act → World → Prop
  | .goto _, _, _ => False
  | e, a, w => Q e a w

theorem wpIn_scopeS {F : Fence} {n : Nat} {Q : Exit → Act → World → Prop} {c : Code} {a : Act} {w : World} (h : c.wpIn F n P (noGo Q) a w) : (Code.scope c).wpIn F n P Q a w := by
  intro b k cs hro hb hr
  obtain ⟨e, a₁, w₁, hq, harr⟩ := h b (.inScope c :: k) cs hro hb hr
  have h0 : (lone (b.atR a (.code (.scope c) :: k)) cs w).fenced P F := fenced_calm hb hr rfl
  cases e with
  | normal => exact ⟨.normal, a₁, w₁, hq, .head h0 stepR_scope (StepsIn.trans harr (.one (fenced_calm hb hr rfl) stepR_inScope))⟩
  | exit id =>
    have hx : exitTo id (.inScope c :: k) = exitTo id k := by simp [exitTo]
    exact ⟨.exit id, a₁, w₁, hq, fun k' hk => .head h0 stepR_scope (harr.1 k' (by rw [hx]; exact hk)),
      fun hr' hk => let ⟨k₁, h1, h2⟩ := harr.2 hr' (by rw [hx]; exact hk); ⟨k₁, h1, .head h0 stepR_scope h2⟩⟩
  | goto l => exact hq.elim
  | ret => exact ⟨_, a₁, w₁, hq, .of_steps (.one h0 stepR_scope) harr⟩
  | panic ch => exact ⟨_, a₁, w₁, hq, .of_steps (.one h0 stepR_scope) harr⟩
  | outgrown => exact ⟨_, a₁, w₁, hq, .of_steps (.one h0 stepR_scope) harr⟩

theorem Rel.put_list : ∀ (ps : List Nat) (vs : List Value) (σ : Env) (a : Act), Rel σ nt ds a → (∀ p ∈ ps, p < nt) → vs.length = ps.length →
    Rel (updL σ ps vs) nt ds { a with tmps := (ps.zip vs).foldl (fun t (x : Nat × Value) => t.setIfInBounds x.1 x.2) a.tmps }
  | [], vs, σ, a, hr, _, _ => by
    have : updL σ [] vs = σ := by cases vs <;> rfl
    rw [this]; exact hr
  | p :: ps, [], σ, a, hr, _, hl => by simp at hl
  | p :: ps, v :: vs, σ, a, hr, hp, hl => by
    have h1 : Rel (upd σ (some p) v) nt ds (a.put (some p) v) := hr.put (fun t ht => by simp at ht; subst ht; exact hp _ (by simp)) v
    exact Rel.put_list ps vs _ _ h1 (fun q hq => hp q (by simp [hq])) (by simpa using hl)

theorem turn_of_put {h : Heap} {l : Nat} {r : Loop} {x : Obj} (hx : h[l]? = some x) (st : LoopState) (p : Option Code) : Turn h (h.setIfInBounds l (.loop { r with state := st, pending := p })) l r st p := by
  have hlt := (Array.getElem?_eq_some_iff.1 hx).1
  refine ⟨⟨by simp [hlt]⟩, by simp, fun k hk => ?_⟩
  rw [Array.getElem?_setIfInBounds, if_neg (fun e => hk e.symm)]

theorem comp_sound (hm : P.follows .mixedOrders = true) : ∀ (c : Code) (sc : SCode), comp P nt c = some sc → ∀ (ro : Option Nat), (ro = none ∨ flat sc = true) → ∀ (n : Nat) (Q : Post) (σ : Env) (ds : List Deferred) (a : Act) (w : World),
    Rel σ nt ds a → swp P sc Q σ ds w.heap → c.wpIn (FW ro) n P (Lift nt w Q) a w := by
  intro c
  induction c with
  | skip =>
    intro sc hc ro hf n Q σ ds a w hr h
    simp [comp] at hc; subst hc
    exact wpIn_skip ⟨σ, ds, hr, SameB.refl w, h⟩
  | label l =>
    intro sc hc ro hf n Q σ ds a w hr h
    simp [comp] at hc; subst hc
    exact wpIn_label ⟨σ, ds, hr, SameB.refl w, h⟩
  | region id ops draw =>
    intro sc hc ro hf n Q σ ds a w hr h
    simp only [comp] at hc
    split at hc
    · rename_i l hl
      simp at hc; subst hc
      exact region_sound hm hl hr h
    · split at hc
      · simp only [Option.map_eq_some_iff] at hc
        obtain ⟨⟨sp, s1, s2⟩, hl, rfl⟩ := hc
        exact region2_sound hm hl hr h
      · simp at hc
  | seq x y ihx ihy =>
    intro sc hc ro hf n Q σ ds a w hr h
    simp only [comp] at hc
    split at hc
    · rename_i sx sy hx hy
      simp at hc; subst hc
      have hf1 : ro = none ∨ flat sx = true := hf.imp id fun h => by simp [flat] at h; exact h.1
      have hf2 : ro = none ∨ flat sy = true := hf.imp id fun h => by simp [flat] at h; exact h.2
      refine wpIn_seq (wpIn_mono (ihx sx hx ro hf1 n (thenQ (swp P sy Q) Q) σ ds a w hr h) ?_)
      rintro e a1 w1 ⟨σ1, ds1, hr1, hb1, hq⟩
      cases e with
      | normal => exact wpIn_mono (ihy sy hy ro hf2 n Q σ1 ds1 a1 w1 hr1 hq) fun e a w h => Lift.trans hb1 h
      | exit id => exact ⟨σ1, ds1, hr1, hb1, hq⟩
      | goto l => exact ⟨σ1, ds1, hr1, hb1, hq⟩
      | ret => exact ⟨σ1, ds1, hr1, hb1, hq⟩
      | panic ch => exact ⟨σ1, ds1, hr1, hb1, hq⟩
      | outgrown => exact ⟨σ1, ds1, hr1, hb1, hq⟩
    · simp at hc
  | cond o x y ihx ihy =>
    intro sc hc ro hf n Q σ ds a w hr h
    simp only [comp] at hc
    split at hc
    · rename_i sx sy hx hy
      simp at hc; subst hc
      have hf1 : ro = none ∨ flat sx = true := hf.imp id fun h => by simp [flat] at h; exact h.1
      have hf2 : ro = none ∨ flat sy = true := hf.imp id fun h => by simp [flat] at h; exact h.2
      simp only [swp] at h
      split at h
      · rename_i he
        exact wpIn_cond_true (hr.knows _ _ he) (ihx sx hx ro hf1 n Q σ ds a w hr h)
      · rename_i he
        exact wpIn_cond_false (hr.knows _ _ he) (ihy sy hy ro hf2 n Q σ ds a w hr h)
      · exact h.elim
    · simp at hc
  | block id c ih =>
    intro sc hc ro hf n Q σ ds a w hr h
    simp only [comp, Option.map_eq_some_iff] at hc
    obtain ⟨s, hs, rfl⟩ := hc
    refine wpIn_block (wpIn_mono (ih s hs ro (hf.imp (fun x => x) fun h => by simpa [flat] using h) n (blockQ id Q) σ ds a w hr h) ?_)
    rintro e a1 w1 ⟨σ1, ds1, hr1, hb1, hq⟩
    cases e with
    | exit id' =>
      simp only [blockQ] at hq
      simp only [Exit.inBlock]
      split
      · rename_i he; rw [if_pos he] at hq; exact ⟨σ1, ds1, hr1, hb1, hq⟩
      · rename_i he; rw [if_neg he] at hq; exact ⟨σ1, ds1, hr1, hb1, hq⟩
    | normal => exact ⟨σ1, ds1, hr1, hb1, hq⟩
    | goto l => exact ⟨σ1, ds1, hr1, hb1, hq⟩
    | ret => exact ⟨σ1, ds1, hr1, hb1, hq⟩
    | panic ch => exact ⟨σ1, ds1, hr1, hb1, hq⟩
    | outgrown => exact ⟨σ1, ds1, hr1, hb1, hq⟩
  | loop c ih =>
    intro sc hc ro hf n Q σ ds a w hr h
    simp only [comp, Option.map_eq_some_iff] at hc
    obtain ⟨s, hs, rfl⟩ := hc
    simp only [swp] at h
    obtain ⟨ι, E, I, μ, i, hsub, hI, hround⟩ := h
    refine wpIn_loopN (fun m a' w' => ∃ i, μ i = m ∧ Rel (mk (E i)) nt ds a' ∧ SameB w w' ∧ I i w'.heap) (m := μ i) ⟨i, rfl, hr.sub (sub_mk hsub), SameB.refl w, hI⟩ ?_
    rintro m a1 w1 ⟨i1, hm1, hr1, hb1, hI1⟩
    refine wpIn_mono (ih s hs ro (hf.imp (fun x => x) fun h => by simpa [flat] using h) n _ (mk (E i1)) ds a1 w1 hr1 (hround i1 w1.heap hI1)) ?_
    rintro e a2 w2 ⟨σ2, ds2, hr2, hb2, hq⟩
    cases e with
    | normal =>
      obtain ⟨rfl, i2, hsub2, hI2, hlt⟩ := hq
      exact ⟨μ i2, by omega, i2, rfl, hr2.sub (sub_mk hsub2), hb1.trans hb2, hI2⟩
    | exit id => exact ⟨σ2, ds2, hr2, hb1.trans hb2, hq⟩
    | goto l => exact ⟨σ2, ds2, hr2, hb1.trans hb2, hq⟩
    | ret => exact ⟨σ2, ds2, hr2, hb1.trans hb2, hq⟩
    | panic ch => exact ⟨σ2, ds2, hr2, hb1.trans hb2, hq⟩
    | outgrown => exact ⟨σ2, ds2, hr2, hb1.trans hb2, hq⟩
  | scope c ih =>
    intro sc hc ro hf n Q σ ds a w hr h
    simp only [comp, Option.map_eq_some_iff] at hc
    obtain ⟨s, hs, rfl⟩ := hc
    refine wpIn_scopeS (wpIn_mono (ih s hs ro (hf.imp (fun x => x) fun h => by simpa [flat] using h) n (scopeQ Q) σ ds a w hr h) ?_)
    rintro e a1 w1 ⟨σ1, ds1, hr1, hb1, hq⟩
    cases e with
    | goto l => exact hq.elim
    | exit id => exact ⟨σ1, ds1, hr1, hb1, hq⟩
    | normal => exact ⟨σ1, ds1, hr1, hb1, hq⟩
    | ret => exact ⟨σ1, ds1, hr1, hb1, hq⟩
    | panic ch => exact ⟨σ1, ds1, hr1, hb1, hq⟩
    | outgrown => exact ⟨σ1, ds1, hr1, hb1, hq⟩
  | exit id =>
    intro sc hc ro hf n Q σ ds a w hr h
    simp [comp] at hc; subst hc
    exact wpIn_exit ⟨σ, ds, hr, SameB.refl w, h⟩
  | ret =>
    intro sc hc ro hf n Q σ ds a w hr h
    simp [comp] at hc; subst hc
    exact wpIn_ret ⟨σ, ds, hr, SameB.refl w, h⟩
  | goto l => intro sc hc; simp [comp] at hc
  | refuse s => intro sc hc; simp [comp] at hc
  | rangeFunc g ps ca cb iha ihb =>
    intro sc hc ro hf n Q σ ds a w hr h
    simp only [comp] at hc
    split at hc
    · rename_i sa sb ha hb
      split at hc
      · rename_i hall
        obtain ⟨hps, hfa, hfb⟩ := hall
        simp at hc; subst hc
        have hro : ro = none := by rcases hf with hf | hf; exact hf; simp [flat] at hf
        subst hro
        have hps' : ∀ p ∈ ps.toList, p < nt := fun p hp => Nat.le_of_ble_eq_true (List.all_eq_true.1 hps p hp)
        simp only [swp] at h
        split at h
        · rename_i f fi cap hg
          have hgv := hr.knows _ _ hg
          refine wpIn_rangeFunc fun fn _ => ?_
          obtain ⟨r, hrdef⟩ : ∃ r : Loop, r = { state := .ready, pending := none, fn, tmps := a.tmps, params := ps, assign := ca, body := cb, defers := w.heap.size } := ⟨_, rfl⟩
          obtain ⟨w1, hw1⟩ : ∃ w1, w1 = (w.alloc (.deferred (some []))).alloc (.loop r) := ⟨_, rfl⟩
          have hh1 : w1.heap = (w.heap.push (.deferred (some []))).push (.loop r) := by rw [hw1]; rfl
          have hL : LoopB w1.heap (w.heap.size + 1) r .ready none := ⟨by
            rw [hh1, hrdef, Array.getElem?_push, if_pos (by simp)]⟩
          have hcalls := h (w.heap.size + 1) w.heap.size r w1.heap rfl rfl (by rw [hh1]; simp) (fun k hk => by
              rw [hh1, Array.getElem?_push, if_neg (by simp; omega), Array.getElem?_push, if_neg (by omega)]) (by
              rw [hh1, Array.getElem?_push, if_neg (by simp), Array.getElem?_push, if_pos rfl]) hL ?_
          · refine ⟨w.heap.size + 1, [{ target := .collected w.heap.size, args := #[] }], w1, { target := .fn (.func f) cap, args := fi ++ #[.func (.yield (w.heap.size + 1)) #[] #[]] }, w1, f,
              ⟨fi.toList ++ [.func (.yield (w.heap.size + 1)) #[] #[]] ++ cap.toList⟩, w1, ?_, ?_, fun _ _ => trivial, ?_, fun hd => by simp [FW, Fence.wide] at hd, ?_⟩
            · have := run_enterLoop_outer (P := P) (w := w) fn a.tmps ps ca cb
              rw [hw1, hrdef]; exact this
            · have hc : a.eval (.const (.func (.yield (w.heap.size + 1)) #[] #[])) = .func (.yield (w.heap.size + 1)) #[] #[] := rfl
              simp [resolve, hgv, Deferred.ofValue, hc]
            · have e : fi ++ #[Value.func (.yield (w.heap.size + 1)) #[] #[]] ++ cap = ⟨fi.toList ++ [.func (.yield (w.heap.size + 1)) #[] #[]] ++ cap.toList⟩ := by apply Array.ext'; simp
              simp only [invoke]
              rw [e]
              exact okFn_call hcalls.1 _ _
            · refine callsIn_FW.2 ((hcalls.2 w1 rfl).mono ?_)
              rintro e w2 ⟨he, hne, h1, h2, h3⟩
              have hb1 : SameB w w2 := ⟨h1.trans (by rw [hw1]; rfl), h2.trans (by rw [hw1]; rfl), h3.trans (by rw [hw1]; rfl)⟩
              cases e with
              | panicked ch => exact he.elim
              | outgrown => exact he.elim
              | returned v =>
                obtain ⟨st, p, hlp, hbusy, hend⟩ := he
                have hre := run_endLoop (P := P) (w := w2) hlp.at_ hbusy
                have hr2 : Rel σ nt ({ target := .collected w.heap.size, args := #[] } :: ds) { a with defers := [{ target := .collected w.heap.size, args := #[] }] ++ a.defers } :=
                  ⟨hr.size, by simp [hr.defers], hr.knows⟩
                have hq := hend _ (turn_of_put (r := r) hlp.at_ .exhausted p)
                refine ⟨p, _, hre, ?_⟩
                cases p with
                | none => exact ⟨σ, _, hr2, hb1, hq⟩
                | some c =>
                  cases c with
                  | ret => exact wpIn_ret ⟨σ, _, hr2, hb1, hq⟩
                  | exit id => exact wpIn_exit ⟨σ, _, hr2, hb1, hq⟩
                  | _ => exact hq.elim
          · -- a round
            intro h2 args R hl2 hlen hsw w2 hw2
            subst hw2
            have hlen' : (⟨args⟩ : Array Value).size = r.params.size := by rw [hrdef]; simpa using hlen
            have hy := run_yield (P := P) (w := w2) (args := ⟨args⟩) hl2.at_ hlen'
            refine ⟨_, _, _, _, hy, ?_⟩
            have hrel : Rel (updL σ ps.toList args) nt [] { tmps := (ps.toList.zip args).foldl (fun t (x : Nat × Value) => t.setIfInBounds x.1 x.2) a.tmps, defers := [] } := by
              have := Rel.put_list (nt := nt) (ds := []) ps.toList args σ { a with defers := [] } ⟨hr.size, rfl, hr.knows⟩ hps' hlen
              exact this
            have htmps : (r.params.zip (⟨args⟩ : Array Value)).foldl (fun tmps (x : Tmp × Value) => tmps.setIfInBounds x.1 x.2) r.tmps = (ps.toList.zip args).foldl (fun t (x : Nat × Value) => t.setIfInBounds x.1 x.2) a.tmps := by
              rw [hrdef, ← Array.foldl_toList, Array.toList_zip]
            refine roundIn_of_wpIn (F := Fence.wide) trivial ?_
            have key : ca.wpIn (FW (some (w.heap.size + 1))) 0 P (Exit.then (fun a₁ w₁ => ∃ w₂, (Instr.beginRound (w.heap.size + 1)).run P w₁ = .ok () w₂ ∧
                cb.wpIn (FW (some (w.heap.size + 1))) 0 P (roundPost P (w.heap.size + 1) fun e w' => R e w'.heap ∧ e ≠ .outgrown ∧ w'.os = w2.os ∧ w'.output = w2.output ∧ w'.tape = w2.tape) a₁ w₂) (fun _ _ _ => False))
                { tmps := (ps.toList.zip args).foldl (fun t (x : Nat × Value) => t.setIfInBounds x.1 x.2) a.tmps, defers := [] } w2 := by
              refine wpIn_mono (iha sa ha (some (w.heap.size + 1)) (.inr hfa) 0 _ _ [] _ w2 hrel hsw) ?_
              rintro e a3 w3 ⟨σ3, ds3, hr3, hb3, hq⟩
              cases e with
              | normal =>
                obtain ⟨hl3, hbody⟩ := hq
                have hbr := run_beginRound (P := P) (w := w3) hl3.at_ rfl
                have hturn := turn_of_put (r := r) hl3.at_ .busy none
                have hsw4 := hbody _ hturn
                refine ⟨_, hbr, wpIn_mono (ihb sb hb (some (w.heap.size + 1)) (.inr hfb) 0 _ σ3 ds3 a3 _ hr3 hsw4) ?_⟩
                rintro e a5 w5 ⟨σ5, ds5, hr5, hb5, hq⟩
                have hb35 : SameB w2 w5 := hb3.trans (SameB.trans ⟨rfl, rfl, rfl⟩ hb5)
                cases e with
                | normal =>
                  obtain ⟨hl5, hR⟩ := hq
                  have hre := run_endRound (P := P) (w := w5) none hl5.at_
                  exact ⟨_, _, hre, hR _ (turn_of_put (r := r) hl5.at_ .ready none), by simp, hb35⟩
                | ret =>
                  obtain ⟨hl5, hR⟩ := hq
                  have hre := run_endRound (P := P) (w := w5) (some .ret) hl5.at_
                  exact ⟨_, _, hre, hR _ (turn_of_put (r := r) hl5.at_ .done (some .ret)), by simp, hb35⟩
                | exit id =>
                  obtain ⟨hl5, hR⟩ := hq
                  have hre := run_endRound (P := P) (w := w5) (some (.exit id)) hl5.at_
                  exact ⟨_, _, hre, hR _ (turn_of_put (r := r) hl5.at_ .done (some (.exit id))), by simp, hb35⟩
                | goto l => exact hq.elim
                | panic ch => exact hq.elim
                | outgrown => exact hq.elim
              | _ => exact hq.elim
            rw [hrdef] at htmps ⊢
            simp only at htmps ⊢
            rw [htmps]
            exact key
        · exact h.elim
      · simp at hc
    · simp at hc

end Go.Sx
