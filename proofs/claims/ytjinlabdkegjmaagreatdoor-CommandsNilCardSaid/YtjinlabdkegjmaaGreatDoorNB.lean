/-
  Layer 10: CommandsNil, its contract: most of it by a run.
-/
import Derived.Test.YtjinlabdkegjmaaGreatDoorNA
import Derived.Test.YtjinlabdkegjmaaGreatDoorKnown
import Derived.Test.YtjinlabdkegjmaaGreatDoorList
namespace Go.Proofs.YtjinlabdkegjmaaGreatDoor
open Go Go.Sx Go.Proofs.YtjinlabdkegjmaaGreatDoor.C

theorem chg_of_ext {h h' : Heap} (he : Ext h h') : Chg [] h h' := by
  refine ⟨?_, fun k hk _ => he k hk⟩
  rcases Nat.lt_or_ge h'.size h.size with hlt | hge
  · have := he h'.size hlt
    rw [Array.getElem?_eq_none (Nat.le_refl _), Array.getElem?_eq_getElem hlt] at this
    cases this
  · exact hge

theorem known_ret (h : Heap) : CallsH Tryz.prog 13 [] h (Ret fun r h' => r = .bool true ∧ Chg [] h h') :=
  (R.calls h).mono fun e h' ⟨he, hx⟩ => by subst he; exact ⟨rfl, chg_of_ext hx⟩

/-! What calls answer that a run takes as told. -/
def ansDo : AV := .t [.g [.i .i64 0, .i .i64 0, .s [], .ns], .ns, .b false]
def pDo (args : List AV) (S : AS) : Option (AV × AS) :=
  match args with
  | [.np, .q 0, .q 1] => some (ansDo, S)
  | [.p a o, .q 0, .q 1] => match getB S.H a with
    | some (_, _, l) => match nth l o with
      | some .np => some (ansDo, S)
      | _ => none
    | none => none
  | _ => none
def pLong (t : Bool) (args : List AV) (S : AS) : Option (AV × AS) :=
  match args with
  | [.q 1] => some (.b t, S)
  | _ => none
def pKnown (args : List AV) (S : AS) : Option (AV × AS) :=
  match args with
  | [] => some (.b true, S)
  | _ => none

def told (now v : Value) : Nat → Value
  | 0 => now
  | 1 => v
  | _ => .bool true

section
variable {h0 : Heap} {now v : Value} {l : List ByteArray}

theorem pDo_ok {f : Nat} (hv : SL encS h0 v l) (hc : ∀ {h : Heap} {k : Value}, NilK h k → SL encS h v l → CallsH Tryz.prog f [k, now, v] h (Ret fun r h' => r = nothing ∧ Chg [] h h')) :
    EntOK Tryz.prog (told now v) (fun k => k < h0.size) h0 f (.prim pDo) := by
  intro ρ h args vs S S' w R hop hg hR hcs hK
  have q0 : ρ.op 0 = now := by rw [hop]; rfl
  have q1 : ρ.op 1 = v := by rw [hop]; rfl
  have hv' : SL encS h v l := hv.ext (chg_of_ext hR.ext)
  have done : ∀ {k : Value}, NilK h k → w = ansDo → S' = S → vs = [k, now, v] → CallsH Tryz.prog f vs h R := by
    rintro k hk rfl rfl rfl
    refine (hc hk hv').mono ?_
    intro e h' he
    cases e with
    | returned u =>
      obtain ⟨rfl, hch⟩ := he
      exact hK ρ h' _ (Le.refl ρ) (hR.grown hch.size hch.ext) rfl
    | panicked ch => exact he.elim
    | outgrown => exact he.elim
  unfold pDo at hg
  split at hg
  · simp at hg; obtain ⟨rfl, rfl⟩ := hg
    simp [concs, conc, q0, q1] at hcs
    exact done (.inl rfl) rfl rfl hcs.symm
  · rename_i a o
    split at hg
    · rename_i x y m hm
      split at hg
      · rename_i hn
        simp at hg; obtain ⟨rfl, rfl⟩ := hg
        simp only [concs, conc, q0, q1] at hcs
        split at hcs
        · rename_i p1 p2 e1 e2
          simp at e2; subst e2
          split at e1
          · rename_i b ba cp hp
            simp at e1; subst e1
            simp at hcs
            obtain ⟨ws, pre, tail, hca⟩ := hR.cells hm hp
            obtain ⟨u, k1, k2⟩ := hca.at hn
            simp [conc] at k1; subst k1
            exact done (.inr ⟨_, _, rfl, k2⟩) rfl rfl hcs.symm
          · simp at e1
        · simp at hcs
      · simp at hg
    · simp at hg
  · simp at hg

theorem pLong_ok (hv : SL encS h0 v l) (hl : l.length < 4611686018427387904) : EntOK Tryz.prog (told now v) (fun k => k < h0.size) h0 31 (.prim (pLong (isLong l))) := by
  intro ρ h args vs S S' w R hop hg hR hcs hK
  have q1 : ρ.op 1 = v := by rw [hop]; rfl
  have hv' : SL encS h v l := hv.ext (chg_of_ext hR.ext)
  unfold pLong at hg
  split at hg
  · simp at hg; obtain ⟨rfl, rfl⟩ := hg
    simp [concs, conc, q1] at hcs
    subst hcs
    refine (long_calls hv' hl).mono ?_
    intro e h' he
    cases e with
    | returned u =>
      obtain ⟨rfl, rfl⟩ := he
      exact hK ρ h' _ (Le.refl ρ) hR rfl
    | panicked ch => exact he.elim
    | outgrown => exact he.elim
  · simp at hg

theorem pKnown_ok : EntOK Tryz.prog (told now v) (fun k => k < h0.size) h0 13 (.prim pKnown) := by
  intro ρ h args vs S S' w R hop hg hR hcs hK
  unfold pKnown at hg
  split at hg
  · simp at hg; obtain ⟨rfl, rfl⟩ := hg
    simp [concs] at hcs
    subst hcs
    refine (known_ret h).mono ?_
    intro e h' he
    cases e with
    | returned u =>
      obtain ⟨rfl, hch⟩ := he
      exact hK ρ h' _ (Le.refl ρ) (hR.grown hch.size hch.ext) rfl
    | panicked ch => exact he.elim
    | outgrown => exact he.elim
  · simp at hg
end

def tbN (t : Bool) : Tbl :=
  .node .nil 10 (.prim pDo) (.node .nil 13 (.prim pKnown) (.node .nil 14 Q.f14_ent (.node .nil 15 Q.f15_ent (.node .nil 16 Q.f16_ent (.node .nil 24 Q.f24_ent (.node .nil 27 Q.f27_ent
    (.node .nil 30 Q.f30_ent (.node .nil 31 (.prim (pLong t)) (.node .nil 32 Q.f32_ent (.node .nil 37 (.prim pDo) (.node .nil 69 Q.f69_ent .nil)))))))))))

theorem tbN_ok {h0 : Heap} {now v : Value} {l : List ByteArray} (hv : SL encS h0 v l) (hl : l.length < 4611686018427387904) : TOK Tryz.prog (told now v) (fun k => k < h0.size) h0 (tbN (isLong l)) :=
  ⟨trivial, pDo_ok hv ldo_calls, ⟨trivial, pKnown_ok, ⟨trivial, Q.f14_ok _ _ _, ⟨trivial, Q.f15_ok _ _ _, ⟨trivial, Q.f16_ok _ _ _, ⟨trivial, Q.f24_ok _ _ _, ⟨trivial, Q.f27_ok _ _ _,
    ⟨trivial, Q.f30_ok _ _ _, ⟨trivial, pLong_ok hv hl, ⟨trivial, Q.f32_ok _ _ _, ⟨trivial, pDo_ok hv bdo_calls, ⟨trivial, Q.f69_ok _ _ _, trivial⟩⟩⟩⟩⟩⟩⟩⟩⟩⟩⟩⟩

def rest : SCode := .seq (.ops f4r3) (.seq (.ops f4r4) (.seq (.ops f4r5) .ret))
def E0 : AE := T.set 40 (T.set 40 .e 0 (some (.q 0))) 1 (some (.q 1))
def good : Option AOut → Bool
  | some (.ret, E', [], _) => match E'.get 4 with
    | some (.b true) => true
    | _ => false
  | _ => false

set_option maxRecDepth 100000 in
theorem rest_run (t : Bool) : good (arec Tryz.prog (tbN t) 200 [] rest E0 [] ⟨.e, gtop⟩) = true := by
  cases t
  · kernel_rfl
  · kernel_rfl

theorem sops_nil {P : Program} {Qp : List PanicEntry → Heap → Prop} {K : Env → Heap → Prop} {σ : Env} {h : Heap} (hk : K σ h) : sops P Qp K [] σ h := hk
theorem then_n {next : Env → List Deferred → Heap → Prop} {Q : Post} {σ : Env} {ds : List Deferred} {h : Heap} (hk : next σ ds h) : thenQ next Q .normal σ ds h := hk
theorem skip_n {P : Program} {Q : Post} {σ : Env} {ds : List Deferred} {h : Heap} (hk : Q .normal σ ds h) : swp P .skip Q σ ds h := hk
theorem cond_f {P : Program} {c : Operand} {a b : SCode} {Q : Post} {σ : Env} {ds : List Deferred} {h : Heap} (he : ev σ c = some (.bool false)) (hs : swp P b Q σ ds h) : swp P (.cond c a b) Q σ ds h := by
  simp only [swp, he]; exact hs

theorem nil_contract {h : Heap} {now : Int} {v : Value} {l : List ByteArray} (hv : SL encS h v l) (hl : l.length < 4611686018427387904) :
    CallsH Tryz.prog 4 [.int .i64 now, v] h (Ret fun r h' => r = .bool true ∧ Chg [] h h') := by
  refine f4_calls (by simp) ?_
  refine call_ret (vast_calls hv hl) ?_
  rintro _ hh ⟨⟨t, rfl⟩, rfl⟩
  cases t with
  | true =>
    refine call_ret (known_ret _) ?_
    rintro _ h' ⟨rfl, hc⟩
    exact And.intro rfl hc
  | false =>
    have h1 : ∀ j, (told (.int .i64 now) v j).oneCell' = true := by
      intro j
      obtain ⟨x, c, rfl, _⟩ := hv.form
      match j with
      | 0 => rfl
      | 1 => rfl
      | _ + 2 => rfl
    have hr := rest_run (isLong l)
    unfold good at hr
    split at hr
    · rename_i E' S' ho
      split at hr
      · rename_i h4
        refine sops_nil (then_n (cond_f rfl (skip_n (then_n ?_))))
        refine run_code (h1 := h1) (tbN_ok hv hl) ho ?_ ?_
        · intro t a ht
          simp only [E0] at ht
          rw [T.get_set 40 _ _ _ _ (by decide)] at ht
          split at ht
          · rename_i e; subst e
            simp at ht; subst ht
            exact ⟨_, rfl, rfl⟩
          · rw [T.get_set 40 _ _ _ _ (by decide)] at ht
            split at ht
            · rename_i e; subst e
              simp at ht; subst ht
              exact ⟨_, rfl, rfl⟩
            · simp [T.get_e] at ht
        · intro ρ' h' σ' ds' xx hl' hR hE hD hX
          cases hX
          cases hD
          obtain ⟨u, k1, k2⟩ := hE 4 _ h4
          simp [conc] at k1; subst k1
          simp only [retQ, leaveQ, resQ, k2]
          exact And.intro rfl (chg_of_ext hR.ext)
      · cases hr
    · cases hr

end Go.Proofs.YtjinlabdkegjmaaGreatDoor
