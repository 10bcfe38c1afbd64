/-
  Layers 9, 10: a name asked of both layers, for each word that is a command's: runs.
-/
import Derived.Test.YtjinlabdkegjmaaGreatDoorVC
import Derived.Test.YtjinlabdkegjmaaGreatDoorTabN
namespace Go.Proofs.YtjinlabdkegjmaaGreatDoor
open Go Go.Sx Go.Proofs.YtjinlabdkegjmaaGreatDoor.C

theorem chg_of_ext {h h' : Heap} (he : Ext h h') : Chg [] h h' := by
  refine ⟨?_, fun k hk _ => he k hk⟩
  rcases Nat.lt_or_ge h'.size h.size with hlt | hge
  · have := he h'.size hlt
    rw [Array.getElem?_eq_none (Nat.le_refl _), Array.getElem?_eq_getElem hlt] at this
    cases this
  · exact hge

def toldN (s : ByteArray) : Nat → Value
  | 0 => .string s
  | _ => .bool true
theorem toldN1 (s : ByteArray) : ∀ j, (toldN s j).oneCell' = true := by
  intro j
  match j with
  | 0 => rfl
  | _ + 1 => rfl

theorem pWord_ok {h0 : Heap} {s : ByteArray} {w : List UInt8} {f : Nat} (hf : ∀ {h : Heap}, CallsH Tryz.prog f [.string s] h (Ret fun r h' => r = .string (up s) ∧ Chg [] h h')) (hw : up s = ofB w) :
    EntOK Tryz.prog (toldN s) (fun k => k < h0.size) h0 f (.prim (pWord w)) := by
  intro ρ h args vs S S' u R hop hg hR hcs hK
  have q0 : ρ.op 0 = .string s := by rw [hop]; rfl
  unfold pWord at hg
  split at hg
  · simp at hg; obtain ⟨rfl, rfl⟩ := hg
    simp [concs, conc, q0] at hcs
    subst hcs
    refine hf.mono ?_
    intro e h' he
    cases e with
    | returned u =>
      obtain ⟨rfl, hch⟩ := he
      exact hK ρ h' _ (Le.refl ρ) (hR.grown hch.size hch.ext) (by rw [hw]; rfl)
    | panicked ch => exact he.elim
    | outgrown => exact he.elim
  · simp at hg

/-! Known, of a word of either layer. -/
set_option maxRecDepth 100000 in
theorem known_run : (allL.all fun w => saysTrue (acall0 Tryz.prog (tbK w) 400 20 [.q 0])) = true := by kernel_rfl

theorem known_yes {h : Heap} {s : ByteArray} (hs : s.size < 4611686018427387904) (hu : up s ∈ allNames) : CallsH Tryz.prog 20 [.string s] h (Ret fun r h' => r = .bool true ∧ Chg [] h h') := by
  obtain ⟨w, hw, e⟩ := List.mem_map.1 hu
  have hr := List.all_eq_true.1 known_run w hw
  unfold saysTrue at hr
  split at hr
  · rename_i S' ho
    refine (run_calls (oq := toldN s) (h1 := toldN1 s) (tbK_ok (pWord_ok (bword_calls hs) e.symm) (pWord_ok (lword_calls hs) e.symm)) ho (vs := [.string s]) rfl).mono ?_
    rintro ee h' ⟨ρ', hl, hR, u, rfl, hu⟩
    simp [conc] at hu; subst hu
    exact ⟨rfl, chg_of_ext hR.ext⟩
  · simp at hr

/-! Less, of two names that stand side by side. -/
def tbS : Tbl := .node .nil 19 Q.f19_ent .nil
theorem tbS_ok (oq : Nat → Value) (F : Nat → Prop) (h0 : Heap) : TOK Tryz.prog oq F h0 tbS := ⟨trivial, Q.f19_ok oq F h0, trivial⟩
set_option maxRecDepth 100000 in
theorem less_run : ((allL.zip allL.tail).all fun p => saysTrue (acall0 Tryz.prog tbS 200 19 [.s p.1, .s p.2])) = true := by kernel_rfl
theorem less_next {h : Heap} {i : Nat} {a b : ByteArray} (ha : allNames[i]? = some a) (hb : allNames[i + 1]? = some b) : CallsH Tryz.prog 19 [.string a, .string b] h (Ret fun r h' => r = .bool true ∧ Chg [] h h') := by
  unfold allNames at ha hb
  rw [List.getElem?_map, Option.map_eq_some_iff] at ha hb
  obtain ⟨x, hx, rfl⟩ := ha
  obtain ⟨y, hy, rfl⟩ := hb
  have hm : (x, y) ∈ allL.zip allL.tail := by
    refine List.mem_iff_getElem?.2 ⟨i, ?_⟩
    rw [List.getElem?_zip_eq_some]
    exact ⟨hx, by rw [List.getElem?_tail]; exact hy⟩
  have hr := List.all_eq_true.1 less_run _ hm
  unfold saysTrue at hr
  split at hr
  · rename_i S' ho
    refine (run_calls (oq := fun _ => .bool true) (h1 := fun _ => rfl) (tbS_ok _ _ _) ho (vs := [.string (ofB x), .string (ofB y)]) rfl).mono ?_
    rintro ee h' ⟨ρ', hl, hR, u, rfl, hu⟩
    simp [conc] at hu; subst hu
    exact ⟨rfl, chg_of_ext hR.ext⟩
  · simp at hr

end Go.Proofs.YtjinlabdkegjmaaGreatDoor
