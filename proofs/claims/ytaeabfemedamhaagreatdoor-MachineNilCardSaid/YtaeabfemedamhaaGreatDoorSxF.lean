/-
  The simplified operations are sound, one by one: pointers, structs, slices, maps, append.
-/
import Derived.Test.YtaeabfemedamhaaGreatDoorSxE
namespace Go.Sx
open Go

variable {P : Program} {σ : Env} {ρ : Operand → Value} {w : World} {K : Value → Heap → Prop} {Qp : List PanicEntry → Heap → Prop}

/-- The type that goes with the number of a nil's kind. -/
def nilType (kd : Nat) (d : TypeDesc) : Prop :=
  match kd with
  | 0 => ∃ e, d = .pointer e
  | 1 => ∃ e, d = .slice e
  | 2 => ∃ k e, d = .map k e
  | 3 => ∃ a b c, d = .func a b c
  | _ => ∃ ms, d = .interface ms

theorem isNil_val {kd : Nat} {y : Operand} (h : isNil kd y = true) : ∃ c, y = .const c ∧ nilTest kd c = some true := by
  unfold isNil at h
  split at h <;> first | (have h' := Nat.eq_of_beq_eq_true h; subst h'; exact ⟨_, rfl, rfl⟩) | simp at h

theorem eqv_ptr {t e : TypeId} (hu : P.underlying t = some (.pointer e)) (x : Option Addr) (w : World) :
    (Op.equal t (.pointer x) (.pointer none)).run P w = .ok x.isNone w ∧ (Op.equal t (.pointer none) (.pointer x)).run P w = .ok x.isNone w := by
  constructor <;> unfold Op.equal Op.maxDepth Op.equalIn <;> simp only [Sem.run_bind, run_underlying' hu, Result.andThen_ok] <;> cases x <;> rfl
theorem eqv_slice {t e : TypeId} (hu : P.underlying t = some (.slice e)) (x : Option Addr) (n c n' c' : Nat) (w : World) :
    (Op.equal t (.slice x n c) (.slice none n' c')).run P w = .ok x.isNone w ∧ (Op.equal t (.slice none n' c') (.slice x n c)).run P w = .ok x.isNone w := by
  constructor <;> unfold Op.equal Op.maxDepth Op.equalIn <;> simp only [Sem.run_bind, run_underlying' hu, Result.andThen_ok] <;> cases x <;> rfl
theorem eqv_map {t k e : TypeId} (hu : P.underlying t = some (.map k e)) (x : Option Nat) (w : World) :
    (Op.equal t (.map x) (.map none)).run P w = .ok x.isNone w ∧ (Op.equal t (.map none) (.map x)).run P w = .ok x.isNone w := by
  constructor <;> unfold Op.equal Op.maxDepth Op.equalIn <;> simp only [Sem.run_bind, run_underlying' hu, Result.andThen_ok] <;> cases x <;> rfl
theorem eqv_func {t : TypeId} {a b : Array TypeId} {c : Bool} (hu : P.underlying t = some (.func a b c)) (fn : Fn) (f1 f2 : Array Value) (w : World) :
    (Op.equal t (.func fn f1 f2) .nilFunc).run P w = .ok false w ∧ (Op.equal t .nilFunc (.func fn f1 f2)).run P w = .ok false w ∧ (Op.equal t .nilFunc .nilFunc).run P w = .ok true w := by
  refine ⟨?_, ?_, ?_⟩ <;> unfold Op.equal Op.maxDepth Op.equalIn <;> simp only [Sem.run_bind, run_underlying' hu, Result.andThen_ok] <;> rfl
theorem eqv_iface {t u : TypeId} {ms : Array (String × TypeId)} (hu : P.underlying t = some (.interface ms)) (v : Value) (w : World) :
    (Op.equal t (.iface u v) .nilIface).run P w = .ok false w ∧ (Op.equal t .nilIface (.iface u v)).run P w = .ok false w ∧ (Op.equal t .nilIface .nilIface).run P w = .ok true w := by
  refine ⟨?_, ?_, ?_⟩ <;> unfold Op.equal Op.maxDepth Op.equalIn <;> simp only [Sem.run_bind, run_underlying' hu, Result.andThen_ok] <;> rfl

theorem run_nil_equal {t : TypeId} {d : TypeDesc} {kd : Nat} {a b : Value} {r : Bool} (hu : P.underlying t = some d) (hd : nilType kd d)
    (ha : nilTest kd a = some r) (hb : nilTest kd b = some true) (w : World) : (Op.equal t a b).run P w = .ok r w ∧ (Op.equal t b a).run P w = .ok r w := by
  unfold nilTest at ha
  split at ha
  · rename_i x
    cases b <;> simp [nilTest] at hb
    subst hb
    obtain ⟨e, rfl⟩ := hd
    simp at ha; subst ha
    exact eqv_ptr hu x w
  · rename_i x n c
    cases b <;> simp [nilTest] at hb
    subst hb
    obtain ⟨e, rfl⟩ := hd
    simp at ha; subst ha
    exact eqv_slice hu x n c _ _ w
  · rename_i x
    cases b <;> simp [nilTest] at hb
    subst hb
    obtain ⟨k, e, rfl⟩ := hd
    simp at ha; subst ha
    exact eqv_map hu x w
  · rename_i f1 f2 f3
    cases b <;> simp [nilTest] at hb
    obtain ⟨k, e, c, rfl⟩ := hd
    simp at ha; subst ha
    exact ⟨(eqv_func hu f1 f2 f3 w).1, (eqv_func hu f1 f2 f3 w).2.1⟩
  · cases b <;> simp [nilTest] at hb
    obtain ⟨k, e, c, rfl⟩ := hd
    simp at ha; subst ha
    exact ⟨(eqv_func hu default #[] #[] w).2.2, (eqv_func hu default #[] #[] w).2.2⟩
  · cases b <;> simp [nilTest] at hb
    obtain ⟨ms, rfl⟩ := hd
    simp at ha; subst ha
    exact ⟨(eqv_iface hu (u := 0) undef w).2.2, (eqv_iface hu (u := 0) undef w).2.2⟩
  · rename_i u v
    cases b <;> simp [nilTest] at hb
    obtain ⟨ms, rfl⟩ := hd
    simp at ha; subst ha
    exact ⟨(eqv_iface hu v w).1, (eqv_iface hu v w).2.1⟩
  · simp at ha

theorem nilTest_plain {kd : Nat} {v : Value} {r : Bool} (h : nilTest kd v = some r) :
    (∀ k n, v ≠ .int k n) ∧ (∀ s, v ≠ .string s) ∧ (∀ k n, v ≠ .float k n) ∧ (∀ k n m, v ≠ .complex k n m) ∧ (∀ c, v ≠ .agg c) := by
  refine ⟨?_, ?_, ?_, ?_, ?_⟩ <;> intros <;> rintro rfl <;> unfold nilTest at h <;> split at h <;> simp_all

theorem run_eqGuard_nil (op : BinOp) (t : TypeId) (x y : Operand) {kd : Nat} {a b : Value} {r q : Bool} (ha : nilTest kd a = some r) (hb : nilTest kd b = some q)
    (hc : (∃ c, x = .const c) ∨ (∃ c, y = .const c)) (w : World) : (eqGuard op t x y a b).run P w = .ok () w := by
  unfold nilTest at ha hb
  split at ha <;> simp at ha <;> split at hb <;> simp at hb <;> rcases hc with ⟨c, rfl⟩ | ⟨c, rfl⟩ <;> cases op <;> simp [eqGuard]

theorem run_binOp_nil {op : BinOp} {t : TypeId} {a b : Value} {r neg : Bool} {kd : Nat} {r1 : Bool} (hop : (op = .eql ∧ neg = false) ∨ (op = .neq ∧ neg = true))
    (ha : nilTest kd a = some r1) (hr : (Op.equal t a b).run P w = .ok r w) :
    (binOp op t a b).run P w = .ok (.bool (bif r then !neg else neg)) w := by
  obtain ⟨h1, h2, h3, h4, h5⟩ := nilTest_plain ha
  rcases hop with ⟨rfl, rfl⟩ | ⟨rfl, rfl⟩ <;> cases a <;> simp_all [binOp] <;> cases r <;> rfl

theorem gives_eqn {op : BinOp} {t : TypeId} {d : TypeDesc} {kd : Nat} {x y : Operand} {s : SOp} {neg : Bool} (hop : (op = .eql ∧ neg = false) ∨ (op = .neq ∧ neg = true)) (hρ : Knows σ ρ)
    (hu : P.underlying t = some d) (hd : nilType kd d) (hs : eqNil kd neg x y = some s)
    (h : sop P σ w.heap K Qp s) : Gives P (binSem op t x y (ρ x) (ρ y)) w K := by
  unfold eqNil at hs
  split at hs
  · rename_i hy
    simp at hs; subst hs
    obtain ⟨c, rfl, hc⟩ := isNil_val hy
    simp only [sop] at h
    split at h
    · rename_i v hv
      split at h
      · rename_i r hr
        rw [hρ x _ hv, hρ (.const c) c rfl]
        exact Gives.bin (run_eqGuard_nil _ _ _ _ hr hc (.inr ⟨c, rfl⟩) w) (run_binOp_nil hop hr (run_nil_equal hu hd hr hc w).1) h
      · exact h.elim
    · exact h.elim
  · split at hs
    · rename_i hx
      simp at hs; subst hs
      obtain ⟨c, rfl, hc⟩ := isNil_val hx
      simp only [sop] at h
      split at h
      · rename_i v hv
        split at h
        · rename_i r hr
          rw [hρ y _ hv, hρ (.const c) c rfl]
          exact Gives.bin (run_eqGuard_nil _ _ _ _ hc hr (.inl ⟨c, rfl⟩) w) (run_binOp_nil hop hc (run_nil_equal hu hd hr hc w).2) h
        · exact h.elim
      · exact h.elim
    · simp at hs

/-! ### Two pointers -/
theorem run_sameAddr {a b o o' : Nat} {l l' : List Value} {w : World} (h : Blk w.heap b l) (h' : Blk w.heap a l') (hne : b ≠ a ∨ o ≠ o') :
    (sameAddr ⟨b, o, none⟩ ⟨a, o', none⟩).run P w = .ok false w := by
  obtain ⟨e, h⟩ := h
  obtain ⟨e', h'⟩ := h'
  have f1 : w.frozen? ⟨b, o, none⟩ = false := by simp [World.frozen?, h]
  have f2 : w.frozen? ⟨a, o', none⟩ = false := by simp [World.frozen?, h']
  have s1 : w.shape? b = some (e, l.length) := by simp [World.shape?, h]
  have s2 : w.shape? a = some (e', l'.length) := by simp [World.shape?, h']
  have f3 : w.frozen? ⟨b, l.length, none⟩ = false := by simp [World.frozen?, h]
  have f4 : w.frozen? ⟨a, l'.length, none⟩ = false := by simp [World.frozen?, h']
  by_cases hb : b = a
  · subst hb
    have ho : o ≠ o' := by rcases hne with h | h <;> simp_all
    simp [sameAddr, ho]
  · simp [sameAddr, hb, noView, viewAt, mayBeOne, stringish, f1, f2, f3, f4, s1, s2]

theorem gives_eqp {op : BinOp} {t e n : TypeId} {x y : Operand} {neg : Bool} (hop : (op = .eql ∧ neg = false) ∨ (op = .neq ∧ neg = true)) (hρ : Knows σ ρ)
    (hu : P.underlying t = some (.pointer e)) (hs : szOf P e = some (n + 1)) (h : sop P σ w.heap K Qp (.eqp neg x y)) : Gives P (binSem op t x y (ρ x) (ρ y)) w K := by
  have guard : ∀ a b, (eqGuard op t x y (.pointer a) (.pointer b)).run P w = .ok () w := by
    intro a b; cases op <;> simp [eqGuard]
  simp only [sop] at h
  split at h
  · rename_i hx hy
    rw [hρ x _ hx, hρ y _ hy]
    exact Gives.bin (guard _ _) (run_binOp_nil (kd := 0) hop rfl (eqv_ptr hu none w).1) h
  · rename_i a hx hy
    rw [hρ x _ hx, hρ y _ hy]
    exact Gives.bin (guard _ _) (run_binOp_nil (kd := 0) hop rfl (eqv_ptr hu (some a) w).2) h
  · rename_i a hx hy
    rw [hρ x _ hx, hρ y _ hy]
    exact Gives.bin (guard _ _) (run_binOp_nil (kd := 0) hop rfl (eqv_ptr hu (some a) w).1) h
  · rename_i b o b' o' hx hy
    rw [hρ x _ hx, hρ y _ hy]
    obtain ⟨⟨l, hl, hl0⟩, ⟨l', hl', hl0'⟩, h1, h2⟩ := h
    have he : ∀ r, (sameAddr ⟨b, o, none⟩ ⟨b', o', none⟩).run P w = .ok r w → (Op.equal t (.pointer (some ⟨b, o, none⟩)) (.pointer (some ⟨b', o', none⟩))).run P w = .ok r w := by
      intro r hr
      unfold Op.equal Op.maxDepth Op.equalIn
      simp [run_underlying' hu, run_sizeOf' hs, hr]
    by_cases hb : b = b' ∧ o = o'
    · obtain ⟨rfl, rfl⟩ := hb
      exact Gives.bin (guard _ _) (run_binOp_nil (kd := 0) (r := true) hop rfl (he true (by simp [sameAddr]))) (h1 rfl rfl)
    · have hne : b ≠ b' ∨ o ≠ o' := by
        by_cases h : b = b'
        · exact .inr fun e => hb ⟨h, e⟩
        · exact .inl h
      exact Gives.bin (guard _ _) (run_binOp_nil (kd := 0) (r := false) hop rfl (he false (run_sameAddr hl hl' hne))) (h2 hb)
  · exact h.elim

end Go.Sx
