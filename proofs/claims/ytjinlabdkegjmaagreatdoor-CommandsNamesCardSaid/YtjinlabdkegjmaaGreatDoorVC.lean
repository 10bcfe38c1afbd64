/-
  Layers 8, 9, 10: the commands' names.
-/
import Derived.Test.YtjinlabdkegjmaaGreatDoorVB
import Derived.Test.YtjinlabdkegjmaaGreatDoorListN
namespace Go.Proofs.YtjinlabdkegjmaaGreatDoor
open Go Go.Sx Go.Proofs.YtjinlabdkegjmaaGreatDoor.C

def ofB (l : List UInt8) : ByteArray := ⟨⟨l⟩⟩
/-- In the order of the maps. -/
def cmdL : List (List UInt8) := [[83, 69, 84], [71, 69, 84], [68, 69, 76], [69, 88, 73, 83, 84, 83], [84, 89, 80, 69], [73, 78, 67, 82], [68, 69, 67, 82], [73, 78, 67, 82, 66, 89], [65, 80, 80, 69, 78, 68], [83, 84, 82, 76, 69, 78], [77, 71, 69, 84], [77, 83, 69, 84], [80, 69, 88, 80, 73, 82, 69], [80, 69, 82, 83, 73, 83, 84], [80, 84, 84, 76], [75, 69, 89, 83], [68, 66, 83, 73, 90, 69], [70, 76, 85, 83, 72, 65, 76, 76]]
def cmdNames : List ByteArray := cmdL.map ofB
def lcmL : List (List UInt8) := [[72, 83, 69, 84], [72, 71, 69, 84], [72, 68, 69, 76], [72, 76, 69, 78], [72, 71, 69, 84, 65, 76, 76], [72, 73, 78, 67, 82, 66, 89], [76, 80, 85, 83, 72], [82, 80, 85, 83, 72], [76, 80, 79, 80], [82, 80, 79, 80], [76, 76, 69, 78], [76, 73, 78, 68, 69, 88], [76, 82, 65, 78, 71, 69], [76, 83, 69, 84], [83, 65, 68, 68], [83, 82, 69, 77], [83, 73, 83, 77, 69, 77, 66, 69, 82], [83, 67, 65, 82, 68], [83, 77, 69, 77, 66, 69, 82, 83], [83, 73, 78, 84, 69, 82], [90, 65, 68, 68], [90, 82, 69, 77], [90, 83, 67, 79, 82, 69], [90, 73, 78, 67, 82, 66, 89], [90, 67, 65, 82, 68], [90, 82, 65, 78, 75], [90, 82, 65, 78, 71, 69], [90, 82, 65, 78, 71, 69, 66, 89, 83, 67, 79, 82, 69]]
def lcmNames : List ByteArray := lcmL.map ofB
/-- In order. -/
def sortL : List (List UInt8) := [[65, 80, 80, 69, 78, 68], [68, 66, 83, 73, 90, 69], [68, 69, 67, 82], [68, 69, 76], [69, 88, 73, 83, 84, 83], [70, 76, 85, 83, 72, 65, 76, 76], [71, 69, 84], [73, 78, 67, 82], [73, 78, 67, 82, 66, 89], [75, 69, 89, 83], [77, 71, 69, 84], [77, 83, 69, 84], [80, 69, 82, 83, 73, 83, 84], [80, 69, 88, 80, 73, 82, 69], [80, 84, 84, 76], [83, 69, 84], [83, 84, 82, 76, 69, 78], [84, 89, 80, 69]]
def sortNames : List ByteArray := sortL.map ofB
def lsortL : List (List UInt8) := [[72, 68, 69, 76], [72, 71, 69, 84], [72, 71, 69, 84, 65, 76, 76], [72, 73, 78, 67, 82, 66, 89], [72, 76, 69, 78], [72, 83, 69, 84], [76, 73, 78, 68, 69, 88], [76, 76, 69, 78], [76, 80, 79, 80], [76, 80, 85, 83, 72], [76, 82, 65, 78, 71, 69], [76, 83, 69, 84], [82, 80, 79, 80], [82, 80, 85, 83, 72], [83, 65, 68, 68], [83, 67, 65, 82, 68], [83, 73, 78, 84, 69, 82], [83, 73, 83, 77, 69, 77, 66, 69, 82], [83, 77, 69, 77, 66, 69, 82, 83], [83, 82, 69, 77], [90, 65, 68, 68], [90, 67, 65, 82, 68], [90, 73, 78, 67, 82, 66, 89], [90, 82, 65, 78, 71, 69], [90, 82, 65, 78, 71, 69, 66, 89, 83, 67, 79, 82, 69], [90, 82, 65, 78, 75], [90, 82, 69, 77], [90, 83, 67, 79, 82, 69]]
def lsortNames : List ByteArray := lsortL.map ofB
def allL : List (List UInt8) := [[65, 80, 80, 69, 78, 68], [68, 66, 83, 73, 90, 69], [68, 69, 67, 82], [68, 69, 76], [69, 88, 73, 83, 84, 83], [70, 76, 85, 83, 72, 65, 76, 76], [71, 69, 84], [72, 68, 69, 76], [72, 71, 69, 84], [72, 71, 69, 84, 65, 76, 76], [72, 73, 78, 67, 82, 66, 89], [72, 76, 69, 78], [72, 83, 69, 84], [73, 78, 67, 82], [73, 78, 67, 82, 66, 89], [75, 69, 89, 83], [76, 73, 78, 68, 69, 88], [76, 76, 69, 78], [76, 80, 79, 80], [76, 80, 85, 83, 72], [76, 82, 65, 78, 71, 69], [76, 83, 69, 84], [77, 71, 69, 84], [77, 83, 69, 84], [80, 69, 82, 83, 73, 83, 84], [80, 69, 88, 80, 73, 82, 69], [80, 84, 84, 76], [82, 80, 79, 80], [82, 80, 85, 83, 72], [83, 65, 68, 68], [83, 67, 65, 82, 68], [83, 69, 84], [83, 73, 78, 84, 69, 82], [83, 73, 83, 77, 69, 77, 66, 69, 82], [83, 77, 69, 77, 66, 69, 82, 83], [83, 82, 69, 77], [83, 84, 82, 76, 69, 78], [84, 89, 80, 69], [90, 65, 68, 68], [90, 67, 65, 82, 68], [90, 73, 78, 67, 82, 66, 89], [90, 82, 65, 78, 71, 69], [90, 82, 65, 78, 71, 69, 66, 89, 83, 67, 79, 82, 69], [90, 82, 65, 78, 75], [90, 82, 69, 77], [90, 83, 67, 79, 82, 69]]
def allNames : List ByteArray := allL.map ofB

def tbC : Tbl := .node .nil 81 Q.f81_ent (.node .nil 140 Q.f140_ent .nil)
theorem tbC_ok (oq : Nat → Value) (F : Nat → Prop) (h0 : Heap) : TOK Tryz.prog oq F h0 tbC := ⟨trivial, Q.f81_ok oq F h0, ⟨trivial, Q.f140_ok oq F h0, trivial⟩⟩
def tbL : Tbl := .node .nil 23 Q.f23_ent .nil
theorem tbL_ok (oq : Nat → Value) (F : Nat → Prop) (h0 : Heap) : TOK Tryz.prog oq F h0 tbL := ⟨trivial, Q.f23_ok oq F h0, trivial⟩

/-- Keys and births of a map's entries. -/
def chkE : List (AV × AV × Nat) → List (List UInt8) → Nat → Bool
  | [], [], _ => true
  | (.s k, _, b) :: es, n :: ns, i => seq8 k n && Nat.beq b i && chkE es ns (i + 1)
  | _, _, _ => false
def mapOut (l : List (List UInt8)) : Option (AEnd × AS) → Bool
  | some (.ret (.m a), S) => match S.H.get a with
    | some (.map es c) => Nat.beq c l.length && chkE es l 0
    | _ => false
  | _ => false

theorem seq8_eq : ∀ {a b : List UInt8}, seq8 a b = true → a = b
  | [], [], _ => rfl
  | x :: a, y :: b, h => by
    simp only [seq8, cond_eq_ite] at h
    split at h
    · rename_i hu
      have : x = y := by
        unfold ueq at hu
        exact UInt8.toNat_inj.1 (by simpa using hu)
      rw [this, seq8_eq h]
    · cases h
  | [], _ :: _, h => by simp [seq8] at h
  | _ :: _, [], h => by simp [seq8] at h

theorem chkE_spec {ρ : Rho} : ∀ {es : List (AV × AV × Nat)} {ns : List (List UInt8)} {i : Nat} {ms : List MapEntry}, chkE es ns i = true → RM ρ es ms →
    ms.map (·.key) = ns.map (fun n => Value.string (ofB n)) ∧ ms.map (·.born) = List.range' i ns.length
  | [], [], i, ms, _, hm => by
    cases ms with
    | nil => exact ⟨rfl, rfl⟩
    | cons e ms => exact hm.elim
  | (.s k, v, b) :: es, n :: ns, i, ms, hc, hm => by
    cases ms with
    | nil => simp [RM] at hm
    | cons e ms =>
      simp only [chkE, Bool.and_eq_true, Nat.beq_eq] at hc
      obtain ⟨h1, _, h3, h4⟩ := hm
      obtain ⟨h5, h6⟩ := chkE_spec hc.2 h4
      simp [conc] at h1
      refine ⟨?_, ?_⟩
      · rw [List.map_cons, List.map_cons, h5, ← h1, seq8_eq hc.1.1]; rfl
      · rw [List.map_cons, h6, h3, hc.1.2]; rfl
  | [], _ :: _, _, _, hc, _ => by simp [chkE] at hc


set_option maxRecDepth 100000 in
theorem cmds_run : mapOut cmdL (acall0 Tryz.prog tbC 50 81 []) = true := by kernel_rfl
set_option maxRecDepth 100000 in
theorem lcms_run : mapOut lcmL (acall0 Tryz.prog tbL 50 23 []) = true := by kernel_rfl

theorem cmds_calls {h : Heap} : CallsH Tryz.prog 81 [] h (Ret fun r h' => ∃ mb c ms, r = .map (some mb) ∧ MK h' mb c ms cmdNames ∧ Chg [] h h') := by
  have hr := cmds_run
  unfold mapOut at hr
  split at hr
  · rename_i a S' hs
    split at hr
    · rename_i es c hg
      simp only [Bool.and_eq_true, Nat.beq_eq] at hr
      refine (run_calls (oq := fun _ => .bool true) (h1 := fun _ => rfl) (tbC_ok _ _ _) hs (by simp [concs])).mono ?_
      rintro ee h' ⟨ρ', hl, hR, u, rfl, hu⟩
      simp only [conc] at hu
      split at hu
      · rename_i b ba cp hp
        simp at hu; subst hu
        obtain ⟨ms, h1, h2⟩ := hR.mapOf hg hp
        obtain ⟨h3, h4⟩ := chkE_spec hr.2 h2
        have hlen : ms.length = 18 := by have := congrArg List.length h3; simpa [cmdL] using this
        refine ⟨b, c, ms, rfl, ⟨h1, ?_, by decide, by omega, ?_, ?_, by decide⟩, ?_⟩
        · rw [h3]; simp [cmdNames]
        · intro e he
          have : e.born ∈ ms.map (·.born) := List.mem_map.2 ⟨e, he, rfl⟩
          rw [h4, List.mem_range'] at this
          obtain ⟨i, hi, e2⟩ := this
          have : cmdL.length = 18 := rfl
          omega
        · rw [h4]; exact List.nodup_range'
        · have hx := hR.ext
          refine ⟨?_, fun k hk _ => hx k hk⟩
          rcases Nat.lt_or_ge h'.size h.size with hlt | hge
          · have := hx h'.size hlt
            rw [Array.getElem?_eq_none (Nat.le_refl _), Array.getElem?_eq_getElem hlt] at this
            cases this
          · exact hge
      · simp at hu
    · cases hr
  · cases hr

theorem lcms_calls {h : Heap} : CallsH Tryz.prog 23 [] h (Ret fun r h' => ∃ mb c ms, r = .map (some mb) ∧ MK h' mb c ms lcmNames ∧ Chg [] h h') := by
  have hr := lcms_run
  unfold mapOut at hr
  split at hr
  · rename_i a S' hs
    split at hr
    · rename_i es c hg
      simp only [Bool.and_eq_true, Nat.beq_eq] at hr
      refine (run_calls (oq := fun _ => .bool true) (h1 := fun _ => rfl) (tbL_ok _ _ _) hs (by simp [concs])).mono ?_
      rintro ee h' ⟨ρ', hl, hR, u, rfl, hu⟩
      simp only [conc] at hu
      split at hu
      · rename_i b ba cp hp
        simp at hu; subst hu
        obtain ⟨ms, h1, h2⟩ := hR.mapOf hg hp
        obtain ⟨h3, h4⟩ := chkE_spec hr.2 h2
        have hlen : ms.length = 28 := by have := congrArg List.length h3; simpa [lcmL] using this
        refine ⟨b, c, ms, rfl, ⟨h1, ?_, by decide, by omega, ?_, ?_, by decide⟩, ?_⟩
        · rw [h3]; simp [lcmNames]
        · intro e he
          have : e.born ∈ ms.map (·.born) := List.mem_map.2 ⟨e, he, rfl⟩
          rw [h4, List.mem_range'] at this
          obtain ⟨i, hi, e2⟩ := this
          have : lcmL.length = 28 := rfl
          omega
        · rw [h4]; exact List.nodup_range'
        · have hx := hR.ext
          refine ⟨?_, fun k hk _ => hx k hk⟩
          rcases Nat.lt_or_ge h'.size h.size with hlt | hge
          · have := hx h'.size hlt
            rw [Array.getElem?_eq_none (Nat.le_refl _), Array.getElem?_eq_getElem hlt] at this
            cases this
          · exact hge
      · simp at hu
    · cases hr
  · cases hr

theorem sort_perm : cmdNames.Perm sortNames := by decide
theorem sort_order : (sortNames.map bytesL).Pairwise (fun a b => leB a b = true) := by decide
theorem lsort_perm : lcmNames.Perm lsortNames := by decide
theorem lsort_order : (lsortNames.map bytesL).Pairwise (fun a b => leB a b = true) := by decide

theorem bnames_calls {h : Heap} : CallsH Tryz.prog 35 [] h (Ret fun r h' => SL encS h' r sortNames ∧ Row h.size h' r sortNames ∧ Chg [] h h') := by
  refine f35_calls (by simp) ?_
  refine call_ret cmds_calls ?_
  rintro _ h1 ⟨mb, c, ms, rfl, hm, hc1⟩
  refine call_ret mKeys_callsC ?_
  rintro _ _ ⟨rfl, rfl⟩
  refine call_ret (sSorted_callsC hm sort_perm sort_order) ?_
  rintro r h3 ⟨hs, hrow, hc3⟩
  have hc := hc1.nil (keysHeap_chg 108 h1 mb)
  exact And.intro hs (And.intro (hrow.mono hc.size) (hc.nil hc3))

theorem lnames_calls {h : Heap} : CallsH Tryz.prog 7 [] h (Ret fun r h' => SL encS h' r lsortNames ∧ Row h.size h' r lsortNames ∧ Chg [] h h') := by
  refine f7_calls (by simp) ?_
  refine call_ret lcms_calls ?_
  rintro _ h1 ⟨mb, c, ms, rfl, hm, hc1⟩
  refine call_ret mKeys_callsL ?_
  rintro _ _ ⟨rfl, rfl⟩
  refine call_ret (sSorted_callsL hm lsort_perm lsort_order) ?_
  rintro r h3 ⟨hs, hrow, hc3⟩
  have hc := hc1.nil (keysHeap_chg 52 h1 mb)
  exact And.intro hs (And.intro (hrow.mono hc.size) (hc.nil hc3))

theorem rnames_calls {h : Heap} : CallsH Tryz.prog 18 [] h (Ret fun r h' => SL encS h' r sortNames ∧ Chg [] h h') := by
  refine f18_calls (by simp) ?_
  intro b h1 g
  refine And.intro ⟨_, 18, rfl, Nat.le_refl _, ?_⟩ g.chg
  exact cells_blk g.blk

theorem r9names_calls {h : Heap} : CallsH Tryz.prog 8 [] h (Ret fun r h' => SL encS h' r lsortNames ∧ Chg [] h h') := by
  refine f8_calls (by simp) ?_
  intro b h1 g
  refine And.intro ⟨_, 28, rfl, Nat.le_refl _, ?_⟩ g.chg
  exact cells_blk g.blk

end Go.Proofs.YtjinlabdkegjmaaGreatDoor
