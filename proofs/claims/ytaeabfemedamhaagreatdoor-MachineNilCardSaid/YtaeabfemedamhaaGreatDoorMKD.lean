/-
  Functions' codes for runs, computed by Lean: the maker.
-/
import Derived.Test.YtaeabfemedamhaaGreatDoorSxYK
import Derived.Test.YtaeabfemedamhaaGreatDoorProg
namespace Go.Proofs.YtaeabfemedamhaaGreatDoor.Q
open Go Go.Sx
set_option maxRecDepth 100000
theorem mixedQ : Tryz.prog.follows .mixedOrders = true := by kernel_rfl
def compAllD (P : Program) (f : Nat) (fn : Func) : Option (SCode × List SRes) :=
  match okFn P f, fn.body with
  | true, some c => match compC false P fn.ntmps c, cres P fn.results.toList with
    | some sc, some rs => some (sc, rs)
    | _, _ => none
  | _, _ => none
/-- A function as runs take it. -/
structure Cd (P : Program) (f : Nat) where
  sc : SCode
  rs : List SRes
  nt : Nat
  d : SoundD P f nt sc rs
  g : SoundF P f nt sc rs
theorem all_d {f : Nat} {fn : Func} {p : SCode × List SRes} (hf : Tryz.prog.funcs[f]? = some fn) (h : compAllD Tryz.prog f fn = some p) : SoundD Tryz.prog f fn.ntmps p.1 p.2 ∧ SoundF Tryz.prog f fn.ntmps p.1 p.2 := by
  unfold compAllD at h
  split at h
  · rename_i hok hb
    split at h
    · rename_i hc hr
      cases h
      exact ⟨soundD_of (fl := false) mixedQ hf hb hok hc hr, soundF_of (fl := false) mixedQ hf hb hok hc hr⟩
    · cases h
  · cases h
noncomputable def mkd {f : Nat} {fn : Func} (hf : Tryz.prog.funcs[f]? = some fn) (x : {p // compAllD Tryz.prog f fn = some p} := by (apply Subtype.mk; conv => (lhs; whnf; dsimp only [isBld, Value.cells, cond, List.toList_toArray, List.getElem_toArray, List.getElem_cons_succ, List.getElem_cons_zero, placesArr, List.map_cons, List.map_nil, List.replicate, List.flatten_cons, List.flatten_nil, List.cons_append, List.nil_append]))) : Cd Tryz.prog f :=
  ⟨x.1.1, x.1.2, fn.ntmps, (all_d hf x.2).1, (all_d hf x.2).2⟩
noncomputable abbrev Cd.e {P : Program} {f : Nat} (x : Cd P f) : Ent := .code x.nt x.sc x.rs
theorem Cd.k {P : Program} {f : Nat} (x : Cd P f) (oq : Nat → Value) (F : Nat → Prop) (h0 : Heap) : EntOK P oq F h0 f x.e := ⟨x.d, x.g⟩
end Go.Proofs.YtaeabfemedamhaaGreatDoor.Q
