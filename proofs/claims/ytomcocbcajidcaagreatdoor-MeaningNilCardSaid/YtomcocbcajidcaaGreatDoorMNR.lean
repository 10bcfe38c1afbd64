/-
  Layer 17: what is closed, by runs: known(), and "return 1" parsed.
-/
import Derived.Test.YtomcocbcajidcaaGreatDoorMNZ
import Derived.Test.YtomcocbcajidcaaGreatDoorMKT
import Derived.Test.YtomcocbcajidcaaGreatDoorSxP
namespace Go.Proofs.YtomcocbcajidcaaGreatDoor
open Go Go.Sx

set_option maxRecDepth 1000000 in
theorem known_run : saysTrue (acall Q.tb (arec Tryz.prog Q.tb 1000) [] 6 [] ⟨gH gsS, gtop⟩) = true := by kernel_rfl
theorem known_ret {h : Heap} (hl : LaidS h) : CallsH Tryz.prog 6 [] h (Ret fun r h' => r = .bool true ∧ Chg [] h h') :=
  (run_okG (Q.tb_ok _ _ _) (spaces hl) known_run).mono fun e h' ⟨he, hx⟩ => by subst he; exact ⟨rfl, chg_of_ext hx⟩

/-- "return 1". -/
def return1 : ByteArray := ⟨#[114, 101, 116, 117, 114, 110, 32, 49]⟩
def parsed : Option (AEnd × AS) → Bool
  | some (.ret (.t [.g l, .i .i64 _, .i .i64 (.ofNat 0)]), _) => Nat.beq (countA l) 6 && onesA l
  | _ => false
set_option maxRecDepth 1000000 in
theorem parse_run : parsed (acall Q.tb (arec Tryz.prog Q.tb 1000) [] 22 [.s [114, 101, 116, 117, 114, 110, 32, 49]] ⟨gH gsS, gtop⟩) = true := by kernel_rfl
theorem parse_ret {h : Heap} (hl : LaidS h) : CallsH Tryz.prog 22 [.string return1] h (Ret fun r h' => (∃ (l : List Value) (p : Int), r = .tuple ⟨[.agg ⟨l⟩, .int .i64 p, .int .i64 0]⟩ ∧ l.length = 6 ∧ ∀ u ∈ l, u.oneCell' = true) ∧ Chg [] h h') := by
  have hr := parse_run
  unfold parsed at hr
  split at hr
  · rename_i l p S' hs
    simp only [Bool.and_eq_true, Nat.beq_eq] at hr
    refine (run_callsG (h1 := fun _ => rfl) (oq := fun _ => .bool true) (Q.tb_ok _ _ _) (spaces hl) hs (by simp [concs, conc]; rfl)).mono ?_
    rintro ee h' ⟨ρ', _, hR, u, rfl, hu⟩
    simp only [conc, concs] at hu
    cases hl' : concs ρ' l with
    | none => rw [hl'] at hu; cases hu
    | some x =>
      rw [hl'] at hu
      have hu : some (Value.tuple ⟨[.agg ⟨x⟩, .int .i64 p, .int .i64 0]⟩) = some u := hu
      obtain rfl := Option.some.inj hu
      exact ⟨⟨x, p, rfl, by rw [concs_len hl', ← countA_eq]; exact hr.1, concs_ones hl' hr.2⟩, chg_of_ext hR.ext⟩
  · cases hr

end Go.Proofs.YtomcocbcajidcaaGreatDoor
