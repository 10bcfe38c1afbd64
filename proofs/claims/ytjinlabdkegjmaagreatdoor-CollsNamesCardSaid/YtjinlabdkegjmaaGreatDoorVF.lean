/-
  Layer 9: CollsNames, its contract.
-/
import Derived.Test.YtjinlabdkegjmaaGreatDoorVE
import Derived.Test.YtjinlabdkegjmaaGreatDoorKnownL
namespace Go.Proofs.YtjinlabdkegjmaaGreatDoor
open Go Go.Sx Go.Proofs.YtjinlabdkegjmaaGreatDoor.C

theorem known_ret (h : Heap) : CallsH Tryz.prog 6 [] h (Ret fun r h' => r = .bool true ∧ Chg [] h h') :=
  (R.calls h).mono fun e h' ⟨he, hx⟩ => by subst he; exact ⟨rfl, chg_of_ext hx⟩

def pKnown (args : List AV) (S : AS) : Option (AV × AS) :=
  match args with
  | [] => some (.b true, S)
  | _ => none
def tbT (w : List UInt8) : Tbl := .node .nil 6 (.prim pKnown) (tbK w)
theorem tbT_ok {w : List UInt8} {oq : Nat → Value} {F : Nat → Prop} {h0 : Heap} (pb : EntOK Tryz.prog oq F h0 83 (.prim (pWord w))) (pl : EntOK Tryz.prog oq F h0 25 (.prim (pWord w))) (pk : EntOK Tryz.prog oq F h0 6 (.prim pKnown)) :
    TOK Tryz.prog oq F h0 (tbT w) := ⟨trivial, pk, tbK_ok pb pl⟩

theorem pKnown_ok {h0 : Heap} {s : ByteArray} : EntOK Tryz.prog (toldN s) (fun k => k < h0.size) h0 6 (.prim pKnown) := by
  intro ρ h args vs S S' u R hop hg hR hcs hK
  unfold pKnown at hg
  split at hg
  · simp at hg; obtain ⟨rfl, rfl⟩ := hg
    simp [concs] at hcs
    subst hcs
    refine (known_ret h).mono ?_
    intro e h' he
    cases e with
    | returned u =>
      obtain ⟨rfl, hch⟩ := he
      exact hK ρ h' _ (Le.refl ρ) (hR.grown hch.size hch.ext) rfl
    | panicked ch => exact he.elim
    | outgrown => exact he.elim
  · simp at hg

def rest9 : SCode := .seq (.ops f3r14) (.seq (.ops f3r15) .ret)
def E9 : AE := T.set 40 (T.set 40 .e 0 (some (.q 0))) 5 (some (.b true))
def good9 : Option AOut → Bool
  | some (.ret, E', [], _) => match E'.get 2 with
    | some (.b true) => true
    | _ => false
  | _ => false
set_option maxRecDepth 100000 in
theorem tail_run : (lsortL.all fun w => good9 (arec Tryz.prog (tbT w) 300 [] rest9 E9 [] ⟨.e, gtop⟩)) = true := by kernel_rfl

theorem ltail_known {hh h : Heap} (hcc : Chg [] hh h) {s : ByteArray} {w : List UInt8} {σ : Env} (hs : s.size < 4611686018427387904) (hw : up s = ofB w) (hm : w ∈ lsortL) (h0 : σ 0 = some (.string s)) (h5 : σ 5 = some (.bool true)) :
    swp Tryz.prog rest9 (retQ [.t 2] (Ret fun r h' => r = .bool true ∧ Chg [] hh h')) σ [] h := by
  have h1 : ∀ j, (toldN s j).oneCell' = true := by
    intro j
    match j with
    | 0 => rfl
    | _ + 1 => rfl
  have hr := (List.all_eq_true.1 tail_run w hm)
  unfold good9 at hr
  split at hr
  · rename_i E' S' ho
    split at hr
    · rename_i h4
      refine run_code (h1 := h1) (tbT_ok (pWord_ok (bword_calls hs) hw) (pWord_ok (lword_calls hs) hw) pKnown_ok) ho ?_ ?_
      · intro t a ht
        simp only [E9] at ht
        rw [T.get_set 40 _ _ _ _ (by decide)] at ht
        split at ht
        · rename_i e; subst e
          simp at ht; subst ht
          exact ⟨_, rfl, h5⟩
        · rw [T.get_set 40 _ _ _ _ (by decide)] at ht
          split at ht
          · rename_i e; subst e
            simp at ht; subst ht
            exact ⟨_, rfl, h0⟩
          · simp [T.get_e] at ht
      · intro ρ' h' σ' ds' xx hl' hR hE hD hX
        cases hX
        cases hD
        obtain ⟨u, k1, k2⟩ := hE 2 _ h4
        simp [conc] at k1; subst k1
        simp only [retQ, leaveQ, resQ, k2]
        exact And.intro rfl (hcc.nil (chg_of_ext hR.ext))
    · cases hr
  · cases hr

theorem lnames_contract {h : Heap} {s : ByteArray} (hs : s.size < 4611686018427387904) : CallsH Tryz.prog 3 [.string s] h (Ret fun r h' => r = .bool true ∧ Chg [] h h') := by
  refine f3_calls (by simp) ?_
  refine And.intro rfl (And.intro (fun hgt => ?_) (fun hle => ?_))
  · refine call_ret (known_ret h) ?_
    rintro _ h' ⟨rfl, hc⟩
    exact And.intro rfl hc
  refine call_ret lnames_calls ?_
  rintro v1 h1 ⟨hv1, _, hc1⟩
  refine call_ret r9names_calls ?_
  rintro v2 h2 ⟨hv2, hc2⟩
  have hv1 := hv1.ext hc2
  have hc := hc1.nil hc2
  obtain ⟨x, c, rfl, _⟩ := hv1.form
  obtain ⟨x', c', rfl, _⟩ := hv2.form
  obtain ⟨b, o, rfl⟩ := hv1.addr (by decide)
  obtain ⟨b', o', rfl⟩ := hv2.addr (by decide)
  refine And.intro rfl (And.intro (fun hne => absurd rfl hne) (fun _ => ?_))
  refine loop_intro (fun p : Nat × Bool => [(0, .string s), (3, .slice (some ⟨b, o, none⟩) lsortNames.length c), (4, .slice (some ⟨b', o', none⟩) lsortNames.length c'), (5, .bool p.2), (6, .int .i64 p.1)])
    (fun p h' => p.1 ≤ lsortNames.length ∧ Chg [] h2 h' ∧ (p.2 = true ↔ up s ∈ lsortNames.take p.1)) (fun p => lsortNames.length - p.1) (0, false) ⟨rfl, rfl, rfl, rfl, rfl, trivial⟩ ⟨Nat.zero_le _, Chg.refl _, by simp⟩ ?_
  rintro ⟨q, t⟩ h3 ⟨hq, hc3, ht⟩
  simp only at hq ht
  have h28 : lsortNames.length = 28 := rfl
  refine And.intro rfl (And.intro (fun hlt => ?_) (fun hge => ?_))
  · have hlq : q < lsortNames.length := by simp only at hlt; omega
    have hcs := (hv1.ext hc3).cells encS_len (i := q) (x := lsortNames[q]) (by simp [hlq])
    have hds := (hv2.ext hc3).cells encS_len (i := q) (x := lsortNames[q]) (by simp [hlq])
    refine And.intro (by simp only; omega) (And.intro (by simp only; omega) (Exists.intro _ (And.intro (hcs 0 _ rfl) ?_)))
    refine And.intro (by simp only; omega) (And.intro (by simp only; omega) (Exists.intro _ (And.intro (hds 0 _ rfl) ?_)))
    refine And.intro (fun hne => absurd rfl hne) (fun _ => ?_)
    cases t with
    | true =>
      refine And.intro rfl (fun z hz => ?_)
      have hz := add_in hz (by simp only; omega) (by simp only; omega)
      subst hz
      refine And.intro rfl (Exists.intro (q + 1, true) (And.intro ⟨rfl, rfl, rfl, rfl, rfl, trivial⟩ (And.intro ⟨hlq, hc3, ?_⟩ (by simp only; omega))))
      have : up s ∈ lsortNames.take q := ht.1 rfl
      simp only
      rw [take_snoc _ q hlq]
      exact ⟨fun _ => List.mem_append.2 (.inl this), fun _ => trivial⟩
    | false =>
      refine And.intro (by simp only; omega) (And.intro (by simp only; omega) (Exists.intro _ (And.intro (hds 0 _ rfl) ?_)))
      refine callq_ret (rword_calls hs) ?_
      rintro _ h4 ⟨rfl, hc4⟩
      refine And.intro hc4.ext ?_
      have hno : up s ∉ lsortNames.take q := fun hh => by have := ht.2 hh; cases this
      refine And.intro (fun he => ?_) (fun hn => ?_)
      · refine And.intro rfl (fun z hz => ?_)
        have hz := add_in hz (by simp only; omega) (by simp only; omega)
        subst hz
        refine And.intro rfl (Exists.intro (q + 1, true) (And.intro ⟨rfl, rfl, rfl, rfl, rfl, trivial⟩ (And.intro ⟨hlq, hc3.nil hc4, ?_⟩ (by simp only; omega))))
        simp only
        rw [take_snoc _ q hlq]
        exact ⟨fun _ => List.mem_append.2 (.inr (by simp; exact he.symm)), fun _ => trivial⟩
      · refine And.intro rfl (fun z hz => ?_)
        have hz := add_in hz (by simp only; omega) (by simp only; omega)
        subst hz
        refine And.intro rfl (Exists.intro (q + 1, false) (And.intro ⟨rfl, rfl, rfl, rfl, rfl, trivial⟩ (And.intro ⟨hlq, hc3.nil hc4, ?_⟩ (by simp only; omega))))
        simp only
        rw [take_snoc _ q hlq]
        refine ⟨fun h => (by cases h), fun h => ?_⟩
        rcases List.mem_append.1 h with h | h
        · exact absurd h hno
        · simp at h; exact absurd h.symm hn
  · have hkl : q = lsortNames.length := by simp only at hge; omega
    subst hkl
    rw [List.take_length] at ht
    have hch := hc.nil hc3
    cases t with
    | true =>
      have hm : up s ∈ lsortNames := ht.1 rfl
      obtain ⟨w, hw, e⟩ := List.mem_map.1 hm
      exact ltail_known hch hs e.symm hw rfl rfl
    | false =>
      have hm : up s ∉ lsortNames := fun hh => by have := ht.2 hh; cases this
      have hm' : up s ∉ lcmNames := fun hh => hm ((lsort_perm.mem_iff).1 hh)
      refine call_ret knew_calls ?_
      rintro k h4 ⟨hk, hc4⟩
      intro ba h5 g5
      refine call_ret (ldo_unknown (now := .int .i64 0) (by obtain ⟨b, a, rfl, hb⟩ := hk; exact ⟨b, a, rfl, cell_chg hb g5.chg (by simp)⟩) (cell_blk g5.blk rfl) hs hm') ?_
      rintro _ h6 ⟨rfl, hc6⟩
      intro b7 h7 g7
      refine Exists.intro _ (And.intro g7.blk (And.intro (Nat.le_refl _) (And.intro rfl (And.intro ones4 fun h8 p8 => ?_))))
      have G := g7.put p8
      have hc8 := (((hch.nil hc4).nil g5.chg).nil hc6).nil G.chg
      refine And.intro (fun _ => ?_) (fun hne => absurd rfl hne)
      refine call_ret (known_ret h8) ?_
      rintro _ h9 ⟨rfl, hc9⟩
      exact And.intro rfl (hc8.nil hc9)

end Go.Proofs.YtjinlabdkegjmaaGreatDoor
