/-
  Runs of simplified code: functions without a body, as entries of a table.
-/
import Derived.Test.YtaeabfemedamhaaGreatDoorSxYJ
import Derived.Laws.Externs
import Derived.Lib.Bytealg
import Derived.Lib.MakeNoZero
namespace Go.Sx
open Go

/-- What is handed in. -/
def xSame (args : List AV) (S : AS) : Option (AV × AS) :=
  match args with
  | [v] => some (v, S)
  | _ => none
/-- Bytes, whatever they are. -/
def xMkz (e : TypeId) (args : List AV) (S : AS) : Option (AV × AS) :=
  match args with
  | [.i .i64 (.ofNat n)] => bif Nat.ble n 281474976710656 then match grow S.H S.N (.cells false (1 + gM * e) []) with
      | some H' => some (.su S.N 0 n 0, ⟨H', S.N + 1⟩)
      | none => none
    else none
  | _ => none
def idxB (c : Nat) : List UInt8 → Nat → Option Nat
  | [], _ => none
  | b :: l, i => bif Nat.beq b.toNat c then some i else idxB c l (i + 1)
def cntB (c : Nat) : List UInt8 → Nat → Nat
  | [], n => n
  | b :: l, n => bif Nat.beq b.toNat c then cntB c l (n + 1) else cntB c l n
def cmpYB : List UInt8 → List UInt8 → Int
  | [], [] => 0
  | [], _ :: _ => .negSucc 0
  | _ :: _, [] => 1
  | a :: l, b :: m => bif Nat.blt a.toNat b.toNat then .negSucc 0 else bif Nat.blt b.toNat a.toNat then 1 else cmpYB l m
def xIdx (args : List AV) (S : AS) : Option (AV × AS) :=
  match args with
  | [.s l, .i .u8 (.ofNat c)] => bif Nat.blt c 256 then match idxB c l 0 with
      | some i => some (.i .i64 (.ofNat i), S)
      | none => some (.i .i64 (.negSucc 0), S)
    else none
  | _ => none
def xCnt (args : List AV) (S : AS) : Option (AV × AS) :=
  match args with
  | [.s l, .i .u8 (.ofNat c)] => bif Nat.blt c 256 then some (.i .i64 (.ofNat (cntB c l 0)), S) else none
  | _ => none
def xCmp (args : List AV) (S : AS) : Option (AV × AS) :=
  match args with
  | [.s a, .s b] => some (mkI .i64 (cmpYB a b), S)
  | _ => none
/-- A map of its own, with the same entries. -/
def xClone (args : List AV) (S : AS) : Option (AV × AS) :=
  match args with
  | [.e t (.m a)] => match S.H.get a with
    | some (.map es c) => match grow S.H S.N (.map es c) with
      | some H' => some (.e t (.m S.N), ⟨H', S.N + 1⟩)
      | none => none
    | _ => none
  | _ => none

theorem idxB_eq (c : Nat) (hc : c < 256) : ∀ (l : List UInt8) (i : Nat), (match idxB c l i with | some j => (j : Int) | none => -1) = (if Go.Lib.indexByte l c.toUInt8 = -1 then -1 else Go.Lib.indexByte l c.toUInt8 + i)
  | [], i => by simp [idxB, Go.Lib.indexByte]
  | b :: l, i => by
    have hb : (b == c.toUInt8) = Nat.beq b.toNat c := by
      rw [Bool.eq_iff_iff, Nat.beq_eq, beq_iff_eq, ← UInt8.toNat_inj]
      simp [Nat.toUInt8, UInt8.toNat_ofNat', Nat.mod_eq_of_lt hc]
    have ih := idxB_eq c hc l (i + 1)
    have hge := Go.Lib.indexByte_ge l c.toUInt8
    simp only [idxB, Go.Lib.indexByte, hb]
    cases hx : Nat.beq b.toNat c with
    | true => simp
    | false =>
      simp only [cond_false, Bool.false_eq_true, if_false]
      rw [ih]
      by_cases h1 : Go.Lib.indexByte l c.toUInt8 = -1
      · simp [h1]
      · have h2 : ¬ (Go.Lib.indexByte l c.toUInt8 == -1) = true := by simpa using h1
        rw [if_neg h1, if_neg h2, if_neg (by omega)]
        omega
theorem cntB_eq (c : Nat) (hc : c < 256) : ∀ (l : List UInt8) (n : Nat), cntB c l n = Go.Lib.countByte l c.toUInt8 + n
  | [], n => by simp [cntB, Go.Lib.countByte]
  | b :: l, n => by
    have hb : (b == c.toUInt8) = Nat.beq b.toNat c := by
      rw [Bool.eq_iff_iff, Nat.beq_eq, beq_iff_eq, ← UInt8.toNat_inj]
      simp [Nat.toUInt8, UInt8.toNat_ofNat', Nat.mod_eq_of_lt hc]
    simp only [cntB, Go.Lib.countByte, List.count_cons, hb]
    cases hx : Nat.beq b.toNat c with
    | true => simp only [cond_true, if_true]; rw [cntB_eq c hc l]; unfold Go.Lib.countByte; omega
    | false => simp only [cond_false, Bool.false_eq_true, if_false]; rw [cntB_eq c hc l]; unfold Go.Lib.countByte; omega
theorem cmpYB_eq : ∀ (a b : List UInt8), cmpYB a b = Go.Lib.compareBytes a b
  | [], [] => rfl
  | [], _ :: _ => rfl
  | _ :: _, [] => rfl
  | a :: l, b :: m => by
    have h1 : ∀ x y : UInt8, Nat.blt x.toNat y.toNat = decide (x < y) := fun x y => by
      rw [Bool.eq_iff_iff, Nat.blt_eq]
      simp [UInt8.lt_iff_toNat_lt]
    simp only [cmpYB, Go.Lib.compareBytes, h1, cmpYB_eq l m, cond_eq_ite, decide_eq_true_eq]
    rfl

section
variable {P : Program} {oq : Nat → Value} {F : Nat → Prop} {h0 : Heap} {f : Nat} {fn : Func}

theorem xSame_ok (hf : P.funcs[f]? = some fn) (hname : (fn.name == "runtime.NumGoroutine") = false) (hb : fn.body.isNone = true) (hn : Extern.findNext fn = none) (he : Extern.find fn = some Extern.AbiNoEscape.same) : EntOK P oq F h0 f (.ext xSame) := by
  intro ρ h args vs S S' v R hop hg hR hcs hK w hw
  unfold xSame at hg
  split at hg
  · simp at hg; obtain ⟨rfl, rfl⟩ := hg
    obtain ⟨u, ws, rfl, h1, h2⟩ := concs_cons hcs
    simp [concs] at h2; subst h2
    refine ⟨u, w, ?_, ?_, rfl, rfl, rfl⟩
    · rw [run_callFunc_extern hf hname hb hn he]
      rfl
    · rw [hw]; exact hK ρ h u (Le.refl ρ) hR h1
  · simp at hg

theorem xMkz_ok {ps : Array TypeId} {t e : TypeId} (ht : P.underlying t = some (.slice e)) (hf : P.funcs[f]? = some fn) (hname : (fn.name == "runtime.NumGoroutine") = false) (hb : fn.body.isNone = true) (hn : Extern.findNext fn = none)
    (he : Extern.find fn = some (Extern.BytealgMakeNoZero.makeNoZero ps #[t])) : EntOK P oq F h0 f (.ext (xMkz e)) := by
  intro ρ h args vs S S' v R hop hg hR hcs hK w hw
  unfold xMkz at hg
  split at hg
  · rename_i n
    simp only [cond_eq_ite, Nat.ble_eq] at hg
    split at hg
    · rename_i hle
      split at hg
      · rename_i H' hgr
        simp at hg; obtain ⟨rfl, rfl⟩ := hg
        obtain ⟨u, ws, rfl, h1, h2⟩ := concs_cons hcs
        simp [concs] at h2; subst h2
        simp [conc] at h1; subst h1
        obtain ⟨cs, hr, hcap, _⟩ := Go.Lib.run_makeNoZero (P := P) w ps t e ht n hle
        have hG : Grow h (h.push (.cells ⟨cs.toList⟩ e (0, 0))) h.size ([] ++ cs.toList) := grow_of_push h _ e
        obtain ⟨ρ', k1, k2, k3⟩ := hR.newCellsT (cp := cs.size) (vs := []) (tail := cs.toList) (sz := 1) (ty := e) (by decide) hgr rfl hG (fun _ => by simp) (fun _ => ⟨⟨_, _, Array.getElem?_push_size⟩, fun h => by omega⟩)
        refine ⟨_, w.drew.drew.alloc (.cells cs e), ?_, hK ρ' _ (.slice (some ⟨w.heap.size, 0, none⟩) n cs.size) k1 ?_ ?_, rfl, rfl, rfl⟩
        · rw [run_callFunc_extern hf hname hb hn he]
          have hr' : (Extern.BytealgMakeNoZero.makeNoZero ps #[t] #[.int .i64 n]).run P w = _ := hr
          show ((Extern.BytealgMakeNoZero.makeNoZero ps #[t] #[.int .i64 n]).run P w).andThen _ = _
          rw [hr']
          rfl
        · subst hw; exact k3
        · simp only [conc, k2]
          rw [if_pos (by omega), hw]
          simp
      · simp at hg
    · simp at hg
  · simp at hg

theorem xIdx_ok (hf : P.funcs[f]? = some fn) (hname : (fn.name == "runtime.NumGoroutine") = false) (hb : fn.body.isNone = true) (hn : Extern.findNext fn = none) (he : Extern.find fn = some Extern.BytealgIndexByte.indexByte) : EntOK P oq F h0 f (.ext xIdx) := by
  intro ρ h args vs S S' v R hop hg hR hcs hK w hw
  unfold xIdx at hg
  split at hg
  · rename_i l c
    simp only [cond_eq_ite, Nat.blt_eq] at hg
    split at hg
    · rename_i hlt
      simp [concs, conc] at hcs
      subst hcs
      have key := idxB_eq c hlt l 0
      have hrun : (callFunc f ⟨[.string ⟨⟨l⟩⟩, .int .u8 c]⟩).run P w = .ok (.value (.int .i64 (Go.Lib.indexByte l c.toUInt8))) w := by
        rw [run_callFunc_extern hf hname hb hn he]
        show ((Extern.BytealgIndexByte.indexByte #[.string ⟨⟨l⟩⟩, .int .u8 c]).run P w).andThen _ = _
        rw [Go.Lib.run_indexByteString]
        rfl
      refine ⟨_, w, hrun, ?_, rfl, rfl, rfl⟩
      rw [hw]
      have hz : (match idxB c l 0 with | some j => (j : Int) | none => -1) = Go.Lib.indexByte l c.toUInt8 := by
        rw [key]
        split
        · rename_i h1; exact h1.symm
        · simp
      split at hg
      · rename_i i hi
        simp at hg; obtain ⟨rfl, rfl⟩ := hg
        rw [hi] at hz
        exact hK ρ h _ (Le.refl ρ) hR (by simp only [conc]; rw [← hz])
      · rename_i hi
        simp at hg; obtain ⟨rfl, rfl⟩ := hg
        rw [hi] at hz
        exact hK ρ h _ (Le.refl ρ) hR (by simp only [conc]; rw [← hz])
    · simp at hg
  · simp at hg

theorem xCnt_ok (hf : P.funcs[f]? = some fn) (hname : (fn.name == "runtime.NumGoroutine") = false) (hb : fn.body.isNone = true) (hn : Extern.findNext fn = none) (he : Extern.find fn = some Extern.BytealgCount.count) : EntOK P oq F h0 f (.ext xCnt) := by
  intro ρ h args vs S S' v R hop hg hR hcs hK w hw
  unfold xCnt at hg
  split at hg
  · rename_i l c
    simp only [cond_eq_ite, Nat.blt_eq] at hg
    split at hg
    · rename_i hlt
      simp at hg; obtain ⟨rfl, rfl⟩ := hg
      simp [concs, conc] at hcs
      subst hcs
      have key := cntB_eq c hlt l 0
      refine ⟨.int .i64 (Go.Lib.countByte l c.toUInt8 : Nat), w, ?_, ?_, rfl, rfl, rfl⟩
      · rw [run_callFunc_extern hf hname hb hn he]
        show ((Extern.BytealgCount.count #[.string ⟨⟨l⟩⟩, .int .u8 c]).run P w).andThen _ = _
        rw [Go.Lib.run_countString]
        rfl
      · rw [hw]
        exact hK ρ h _ (Le.refl ρ) hR (by simp only [conc]; rw [key]; rfl)
    · simp at hg
  · simp at hg

theorem xCmp_ok (hf : P.funcs[f]? = some fn) (hname : (fn.name == "runtime.NumGoroutine") = false) (hb : fn.body.isNone = true) (hn : Extern.findNext fn = none) (he : Extern.find fn = some Extern.BytealgCompare.compare) : EntOK P oq F h0 f (.ext xCmp) := by
  intro ρ h args vs S S' v R hop hg hR hcs hK w hw
  unfold xCmp at hg
  split at hg
  · rename_i a b
    simp at hg; obtain ⟨rfl, rfl⟩ := hg
    simp [concs, conc] at hcs
    subst hcs
    refine ⟨.int .i64 (Go.Lib.compareBytes a b), w, ?_, ?_, rfl, rfl, rfl⟩
    · rw [run_callFunc_extern hf hname hb hn he]
      show ((Extern.BytealgCompare.compare #[.string ⟨⟨a⟩⟩, .string ⟨⟨b⟩⟩]).run P w).andThen _ = _
      rw [Go.Lib.run_compareString]
      rfl
    · rw [hw]
      exact hK ρ h _ (Le.refl ρ) hR (by rw [mkI_eq, cmpYB_eq]; rfl)
  · simp at hg

theorem xClone_ok (hf : P.funcs[f]? = some fn) (hname : (fn.name == "runtime.NumGoroutine") = false) (hb : fn.body.isNone = true) (hn : Extern.findNext fn = none) (he : Extern.find fn = some Extern.MapsClone.clone) : EntOK P oq F h0 f (.ext xClone) := by
  intro ρ h args vs S S' v R hop hg hR hcs hK w hw
  unfold xClone at hg
  split at hg
  · rename_i t a
    split at hg
    · rename_i es c hga
      split at hg
      · rename_i H' hgr
        simp at hg; obtain ⟨rfl, rfl⟩ := hg
        obtain ⟨u, ws, rfl, h1, h2⟩ := concs_cons hcs
        simp [concs] at h2; subst h2
        simp only [conc] at h1
        split at h1
        · rename_i y hy
          simp at h1; subst h1
          split at hy
          · rename_i b ba cp hp
            simp at hy; subst hy
            obtain ⟨ms, hm, hrm⟩ := hR.mapOf hga hp
            have hm' : w.heap[b]? = some (.map ⟨ms⟩ c) := by rw [hw]; exact hm
            obtain ⟨ρ', k1, k2, k3⟩ := hR.new (cp := 0) hgr (b := h.size) (h' := h.push (.map ⟨ms⟩ c)) rfl (by simp) (fun k hk => by rw [Array.getElem?_push, if_neg (by omega)]) (fun ρ' hl _ => ⟨ms, Array.getElem?_push_size, hrm.mono hl⟩)
            refine ⟨.iface t (.map (some w.heap.size)), w.alloc (.map ⟨ms⟩ c), ?_, hK ρ' _ _ k1 ?_ ?_, rfl, rfl, rfl⟩
            · rw [run_callFunc_extern hf hname hb hn he]
              show ((Extern.MapsClone.clone #[.iface t (.map (some b))]).run P w).andThen _ = _
              have hdef : Extern.MapsClone.clone #[.iface t (.map (some b))] = (do
                let .map entries clock ← getObj b | stuck "maps.clone: a map expected"
                pure (.iface t (.map (some (← newObj (.map entries clock)))))) := rfl
              rw [hdef]
              have hg' : (getObj b).run P w = .ok (.map ⟨ms⟩ c) w := run_getMap (h := w.heap) hm' w rfl
              simp only [Sem.run_bind, hg', Result.andThen_ok]
              rfl
            · subst hw; exact k3
            · simp only [conc, k2, hw]
          · simp at hy
        · simp at h1
      · simp at hg
    · simp at hg
  · simp at hg
end
end Go.Sx
