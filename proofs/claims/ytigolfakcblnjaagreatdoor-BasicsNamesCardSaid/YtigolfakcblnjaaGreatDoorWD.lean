/-
  Layer 8: the tail of BasicsNames, for each word that is a command's: runs.
-/
import Derived.Test.YtigolfakcblnjaaGreatDoorWC
import Derived.Test.YtigolfakcblnjaaGreatDoorTabW
import Derived.Test.YtigolfakcblnjaaGreatDoorSC
namespace Go.Proofs.YtigolfakcblnjaaGreatDoor
open Go Go.Sx Go.Proofs.YtigolfakcblnjaaGreatDoor.C

def rest8 : SCode := .seq (.ops f4r14) (.seq (.ops f4r15) .ret)
def E8 : AE := T.set 40 (T.set 40 .e 0 (some (.q 0))) 5 (some (.b true))
def good8 : Option AOut → Bool
  | some (.ret, E', [], _) => match E'.get 2 with
    | some (.b true) => true
    | _ => false
  | _ => false
def told8 (s : ByteArray) : Nat → Value
  | 0 => .string s
  | _ => .bool true

set_option maxRecDepth 100000 in
theorem tail_run : ∀ w ∈ sortL, good8 (arec Tryz.prog (tbW w) 200 [] rest8 E8 [] ⟨.e, gtop⟩) = true := by
  intro w hw
  simp only [sortL, List.mem_cons, List.not_mem_nil, or_false] at hw
  rcases hw with rfl | rfl | rfl | rfl | rfl | rfl | rfl | rfl | rfl | rfl | rfl | rfl | rfl | rfl | rfl | rfl | rfl | rfl <;> kernel_rfl

theorem pWord_ok {h0 : Heap} {s : ByteArray} {w : List UInt8} (hs : s.size < 4611686018427387904) (hw : up s = ofB w) : EntOK Tryz.prog (told8 s) (fun k => k < h0.size) h0 38 (.prim (pWord w)) := by
  intro ρ h args vs S S' u R hop hg hR hcs hK
  have q0 : ρ.op 0 = .string s := by rw [hop]; rfl
  unfold pWord at hg
  split at hg
  · simp at hg; obtain ⟨rfl, rfl⟩ := hg
    simp [concs, conc, q0] at hcs
    subst hcs
    refine (bword_calls hs).mono ?_
    intro e h' he
    cases e with
    | returned u =>
      obtain ⟨rfl, hch⟩ := he
      exact hK ρ h' _ (Le.refl ρ) (hR.grown hch.size hch.ext) (by rw [hw]; rfl)
    | panicked ch => exact he.elim
    | outgrown => exact he.elim
  · simp at hg

theorem pKnown_ok {h0 : Heap} {s : ByteArray} : EntOK Tryz.prog (told8 s) (fun k => k < h0.size) h0 11 (.prim pKnown) := by
  intro ρ h args vs S S' u R hop hg hR hcs hK
  unfold pKnown at hg
  split at hg
  · simp at hg; obtain ⟨rfl, rfl⟩ := hg
    simp [concs] at hcs
    subst hcs
    refine (known_ret h).mono ?_
    intro e h' he
    cases e with
    | returned u =>
      obtain ⟨rfl, hch⟩ := he
      exact hK ρ h' _ (Le.refl ρ) (hR.grown hch.size hch.ext) rfl
    | panicked ch => exact he.elim
    | outgrown => exact he.elim
  · simp at hg

theorem tail_known {hh h : Heap} (hcc : Chg [] hh h) {s : ByteArray} {w : List UInt8} {σ : Env} (hs : s.size < 4611686018427387904) (hw : up s = ofB w) (hm : w ∈ sortL) (h0 : σ 0 = some (.string s)) (h5 : σ 5 = some (.bool true)) :
    swp Tryz.prog rest8 (retQ [.t 2] (Ret fun r h' => r = .bool true ∧ Chg [] hh h')) σ [] h := by
  have h1 : ∀ j, (told8 s j).oneCell' = true := by
    intro j
    match j with
    | 0 => rfl
    | _ + 1 => rfl
  have hr := tail_run w hm
  unfold good8 at hr
  split at hr
  · rename_i E' S' ho
    split at hr
    · rename_i h4
      refine run_code (h1 := h1) (tbW_ok (pWord_ok hs hw) pKnown_ok) ho ?_ ?_
      · intro t a ht
        simp only [E8] at ht
        rw [T.get_set 40 _ _ _ _ (by decide)] at ht
        split at ht
        · rename_i e; subst e
          simp at ht; subst ht
          exact ⟨_, rfl, h5⟩
        · rw [T.get_set 40 _ _ _ _ (by decide)] at ht
          split at ht
          · rename_i e; subst e
            simp at ht; subst ht
            exact ⟨_, rfl, h0⟩
          · simp [T.get_e] at ht
      · intro ρ' h' σ' ds' xx hl' hR hE hD hX
        cases hX
        cases hD
        obtain ⟨u, k1, k2⟩ := hE 2 _ h4
        simp [conc] at k1; subst k1
        simp only [retQ, leaveQ, resQ, k2]
        exact And.intro rfl (hcc.nil (chg_of_ext hR.ext))
    · cases hr
  · cases hr

end Go.Proofs.YtigolfakcblnjaaGreatDoor
