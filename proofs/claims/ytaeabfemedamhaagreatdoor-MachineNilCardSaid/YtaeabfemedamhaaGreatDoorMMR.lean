/-
  Layer 20: MachineNil's contract, by one run: what is handed on is not looked at.
-/
import Derived.Test.YtaeabfemedamhaaGreatDoorMMK
namespace Go.Proofs.YtaeabfemedamhaaGreatDoor
open Go Go.Sx

def pKnown (args : List AV) (S : AS) : Option (AV × AS) :=
  match args with
  | [] => some (.b true, S)
  | _ => none
theorem pKnown_ok {oq : Nat → Value} {h0 : Heap} (hs : LaidS h0) : EntOK Tryz.prog oq (fun k => k < h0.size) h0 6 (.prim pKnown) := by
  intro ρ h args vs S S' u R hop hg hR hcs hK
  unfold pKnown at hg
  split at hg
  · simp at hg; obtain ⟨rfl, rfl⟩ := hg
    simp [concs] at hcs
    subst hcs
    have hl : LaidS h := hs.ext (chg_of_ext hR.ext)
    refine (known_ret hl).mono ?_
    intro e h' he
    cases e with
    | returned u =>
      obtain ⟨rfl, hch⟩ := he
      exact hK ρ h' _ (Le.refl ρ) (hR.grown hch.size hch.ext) rfl
    | panicked ch => exact he.elim
    | outgrown => exact he.elim
  · simp at hg
noncomputable def tbN : Tbl := .node Q.tb 6 (.prim pKnown) Q.tb
theorem tbN_ok {oq : Nat → Value} {h0 : Heap} (hs : LaidS h0) : TOK Tryz.prog oq (fun k => k < h0.size) h0 tbN := ⟨Q.tb_ok _ _ _, pKnown_ok hs, Q.tb_ok _ _ _⟩

set_option maxRecDepth 1000000 in
theorem mm_run : saysTrue (acall tbN (arecF Tryz.prog tbN 1000) [] 3 [.g [.q 0, .q 1, .q 2], .g [.q 3, .q 4, .q 5, .q 6, .q 7, .q 8]] ⟨gH gsS, gtop⟩) = true := by kernel_rfl

theorem mm_calls {h : Heap} {l m : List Value} (hl : l.length = 3) (hm : m.length = 6) (ol : ∀ u ∈ l, u.oneCell' = true) (om : ∀ u ∈ m, u.oneCell' = true) (hs : LaidS h) :
    CallsH Tryz.prog 3 [.agg ⟨l⟩, .agg ⟨m⟩] h (Ret fun r h' => r = .bool true ∧ Chg [] h h') := by
  match l, hl, m, hm with
  | [a0, a1, a2], _, [b0, b1, b2, b3, b4, b5], _ =>
    have h1 : ∀ j, (told [a0, a1, a2, b0, b1, b2, b3, b4, b5] j).oneCell' = true := told_one (by
      intro u hu
      rcases List.mem_append.1 (show u ∈ [a0, a1, a2] ++ [b0, b1, b2, b3, b4, b5] from hu) with h | h
      · exact ol u h
      · exact om u h)
    have hr := mm_run
    rw [arecF_eq] at hr
    unfold saysTrue at hr
    split at hr
    · rename_i S' hs'
      refine (run_callsG (h1 := h1) (tbN_ok hs) (spaces hs) hs' (by simp [concs, conc, gRho, told])).mono ?_
      rintro ee h' ⟨ρ', hl, hR, u, rfl, hu⟩
      simp [conc] at hu; subst hu
      exact ⟨rfl, chg_of_ext hR.ext⟩
    · simp at hr

end Go.Proofs.YtaeabfemedamhaaGreatDoor
