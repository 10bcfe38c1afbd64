/-
  Runs of simplified code: tries, equality, lists; what a heap of names says of the heap.
-/
import Derived.Test.YtaeabfemedamhaaGreatDoorSxYB
namespace Go.Sx
open Go

/-! ### Tries -/
theorem T.get_e {α : Type} (k : Nat) : (T.e : T α).get k = none := rfl
theorem T.get_n {α : Type} (l r : T α) (v : Option α) (k : Nat) : (T.n l v r).get k = if k = 0 then v else if k % 2 = 1 then l.get ((k - 1) / 2) else r.get ((k - 1) / 2) := by
  simp only [T.get, cond_eq_ite, Nat.beq_eq]

theorem T.get_set {α : Type} : ∀ (f : Nat) (t : T α) (k j : Nat) (v : Option α), k < 2 ^ f → (T.set f t k v).get j = if j = k then v else t.get j
  | 0, .e, k, j, v, hk => by
    have : k = 0 := by simpa using hk
    subst this
    simp only [T.set, T.get_n, T.get_e]
    split <;> simp
  | 0, .n l u r, k, j, v, hk => by
    have : k = 0 := by simpa using hk
    subst this
    simp only [T.set, T.get_n]
    split <;> simp
  | f + 1, t, k, j, v, hk => by
    have hk' : (k - 1) / 2 < 2 ^ f := by
      have : 2 ^ (f + 1) = 2 * 2 ^ f := by rw [Nat.pow_succ]; omega
      omega
    cases t with
    | e =>
      simp only [T.set, cond_eq_ite, Nat.beq_eq]
      split
      · rename_i h0; subst h0
        simp only [T.get_n, T.get_e]
        split <;> simp
      · split
        · simp only [T.get_n, T.get_e]
          by_cases hj : j = 0
          · subst hj; rw [if_pos rfl, if_neg (by omega)]
          · rw [if_neg hj]
            by_cases hp : j % 2 = 1
            · rw [if_pos hp, T.get_set f .e _ _ v hk', T.get_e]
              have : (j - 1) / 2 = (k - 1) / 2 ↔ j = k := by omega
              simp only [this]
            · rw [if_neg hp, if_neg (by omega)]
        · simp only [T.get_n, T.get_e]
          by_cases hj : j = 0
          · subst hj; rw [if_pos rfl, if_neg (by omega)]
          · rw [if_neg hj]
            by_cases hp : j % 2 = 1
            · rw [if_pos hp, if_neg (by omega)]
            · rw [if_neg hp, T.get_set f .e _ _ v hk', T.get_e]
              have : (j - 1) / 2 = (k - 1) / 2 ↔ j = k := by omega
              simp only [this]
    | n l u r =>
      simp only [T.set, cond_eq_ite, Nat.beq_eq]
      split
      · rename_i h0; subst h0
        simp only [T.get_n]
        split <;> simp
      · split
        · simp only [T.get_n]
          by_cases hj : j = 0
          · subst hj; rw [if_pos rfl, if_neg (by omega)]; simp
          · rw [if_neg hj, if_neg hj]
            by_cases hp : j % 2 = 1
            · rw [if_pos hp, if_pos hp, T.get_set f l _ _ v hk']
              have : (j - 1) / 2 = (k - 1) / 2 ↔ j = k := by omega
              simp only [this]
            · rw [if_neg hp, if_neg hp, if_neg (by omega)]
        · simp only [T.get_n]
          by_cases hj : j = 0
          · subst hj; rw [if_pos rfl, if_neg (by omega)]; simp
          · rw [if_neg hj, if_neg hj]
            by_cases hp : j % 2 = 1
            · rw [if_pos hp, if_pos hp, if_neg (by omega)]
            · rw [if_neg hp, if_neg hp, T.get_set f r _ _ v hk']
              have : (j - 1) / 2 = (k - 1) / 2 ↔ j = k := by omega
              simp only [this]

theorem T.put_get {α : Type} {t t' : T α} {k : Nat} {v : Option α} (h : t.put k v = some t') (j : Nat) : t'.get j = if j = k then v else t.get j := by
  unfold T.put at h
  cases hb : Nat.blt k big with
  | false => rw [hb] at h; simp at h
  | true =>
    rw [hb] at h
    simp at h
    subst h
    have hlt : k < 2 ^ 40 := by
      have := Nat.le_of_ble_eq_true hb
      unfold big at this
      omega
    exact T.get_set 40 t k j v hlt

/-! ### Equal -/
theorem ieq_iff : ∀ a b : Int, ieq a b = true ↔ a = b
  | .ofNat a, .ofNat b => by simp only [ieq, Nat.beq_eq, Int.ofNat.injEq]
  | .negSucc a, .negSucc b => by simp only [ieq, Nat.beq_eq, Int.negSucc.injEq]
  | .ofNat a, .negSucc b => by simp [ieq]
  | .negSucc a, .ofNat b => by simp [ieq]
theorem ilt_iff : ∀ a b : Int, ilt a b = true ↔ a < b
  | .ofNat a, .ofNat b => by simp only [ilt, Nat.blt_eq]; exact ⟨fun h => Int.ofNat_lt.2 h, fun h => Int.ofNat_lt.1 h⟩
  | .negSucc a, .negSucc b => by simp only [ilt, Nat.blt_eq]; constructor <;> intro h <;> omega
  | .ofNat a, .negSucc b => by simp only [ilt]; constructor <;> intro h <;> first | cases h | (have := Int.negSucc_lt_zero b; have := Int.natCast_nonneg a; exact absurd h (by simp only [Int.ofNat_eq_natCast]; omega))
  | .negSucc a, .ofNat b => by simp only [ilt, true_iff]; have := Int.negSucc_lt_zero a; simp only [Int.ofNat_eq_natCast]; omega
theorem keq_eq {a b : IntKind} (h : keq a b = true) : a = b := by cases a <;> cases b <;> first | rfl | simp [keq] at h
theorem beqB_eq {a b : Bool} : beqB a b = true ↔ a = b := by cases a <;> cases b <;> simp [beqB]
theorem ueq_iff (a b : UInt8) : ueq a b = true ↔ a = b := by
  unfold ueq
  rw [Nat.beq_eq]
  exact ⟨fun h => UInt8.toNat_inj.1 h, fun h => by rw [h]⟩
theorem seq8_iff : ∀ a b : List UInt8, seq8 a b = true ↔ a = b
  | [], [] => by simp [seq8]
  | [], b :: m => by simp [seq8]
  | a :: l, [] => by simp [seq8]
  | a :: l, b :: m => by
    have h1 := ueq_iff a b
    have h2 := seq8_iff l m
    simp only [seq8, List.cons.injEq]
    cases hu : ueq a b with
    | true => rw [hu] at h1; simp at h1; simp [h1, h2]
    | false => rw [hu] at h1; simp at h1; simp [h1]
theorem slt8_eq : ∀ a b : List UInt8, slt8 a b = Op.bytesLess a b
  | a, [] => by cases a <;> rfl
  | [], b :: m => rfl
  | a :: l, b :: m => by
    have ih := slt8_eq l m
    have h1 := ueq_iff a b
    simp only [slt8, Op.bytesLess, ih]
    have hlt : Nat.blt a.toNat b.toNat = decide (a < b) := by
      rw [Bool.eq_iff_iff, Nat.blt_eq]
      simp [UInt8.lt_iff_toNat_lt]
    rw [hlt]
    cases hd : decide (a < b) with
    | true => rfl
    | false =>
      cases hu : ueq a b with
      | true => rw [hu] at h1; simp at h1; subst h1; simp
      | false => rw [hu] at h1; simp at h1; simp [h1]

mutual
theorem aeq_eq : ∀ (a b : AV), aeq a b = true → a = b
  | .i k n, b, h => by
    cases b <;> simp [aeq] at h
    rw [keq_eq h.1, (ieq_iff _ _).1 h.2]
  | .b t, b, h => by
    cases b <;> simp [aeq] at h
    rw [beqB_eq.1 h]
  | .s l, b, h => by
    cases b <;> simp [aeq] at h
    rw [(seq8_iff _ _).1 h]
  | .p a o, b, h => by
    cases b <;> simp [aeq] at h
    obtain ⟨rfl, rfl⟩ := h; rfl
  | .np, b, h => by cases b <;> simp [aeq] at h; rfl
  | .sl a o n c, b, h => by
    cases b <;> simp [aeq] at h
    obtain ⟨⟨⟨rfl, rfl⟩, rfl⟩, rfl⟩ := h; rfl
  | .su a o n c, b, h => by
    cases b <;> simp [aeq] at h
    obtain ⟨⟨⟨rfl, rfl⟩, rfl⟩, rfl⟩ := h; rfl
  | .ns, b, h => by cases b <;> simp [aeq] at h; rfl
  | .m a, b, h => by
    cases b <;> simp [aeq] at h
    rw [h]
  | .nm, b, h => by cases b <;> simp [aeq] at h; rfl
  | .f f x y, b, h => by
    cases b <;> simp [aeq] at h
    rename_i f' x' y'
    rw [h.1.1, aeqs_eq x x' h.1.2, aeqs_eq y y' h.2]
  | .nf, b, h => by cases b <;> simp [aeq] at h; rfl
  | .y l, b, h => by
    cases b <;> simp [aeq] at h
    rw [h]
  | .ni, b, h => by cases b <;> simp [aeq] at h; rfl
  | .e t v, b, h => by
    cases b <;> simp [aeq] at h
    rename_i t' v'
    rw [h.1, aeq_eq v v' h.2]
  | .g l, b, h => by
    cases b <;> simp [aeq] at h
    rename_i l'
    rw [aeqs_eq l l' h]
  | .t l, b, h => by
    cases b <;> simp [aeq] at h
    rename_i l'
    rw [aeqs_eq l l' h]
  | .q j, b, h => by
    cases b <;> simp [aeq] at h
    rw [h]
theorem aeqs_eq : ∀ (a b : List AV), aeqs a b = true → a = b
  | [], [], _ => rfl
  | [], _ :: _, h => by simp [aeqs] at h
  | _ :: _, [], h => by simp [aeqs] at h
  | x :: l, y :: m, h => by
    simp [aeqs] at h
    rw [aeq_eq x y h.1, aeqs_eq l m h.2]
end

theorem neqs_eq : ∀ (a b : List Nat), neqs a b = true → a = b
  | [], [], _ => rfl
  | [], _ :: _, h => by simp [neqs] at h
  | _ :: _, [], h => by simp [neqs] at h
  | x :: l, y :: m, h => by
    simp [neqs] at h
    rw [h.1, neqs_eq l m h.2]
theorem oeq_eq : ∀ (a b : Option Nat), oeq a b = true → a = b
  | none, none, _ => rfl
  | none, some _, h => by simp [oeq] at h
  | some _, none, h => by simp [oeq] at h
  | some a, some b, h => by simp [oeq] at h; rw [h]
theorem aeqp_eq : ∀ (a b : APend), aeqp a b = true → a = b
  | none, none, _ => rfl
  | some none, some none, _ => rfl
  | some (some a), some (some b), h => by simp [aeqp] at h; rw [h]
  | none, some _, h => by simp [aeqp] at h
  | some _, none, h => by simp [aeqp] at h
  | some none, some (some _), h => by simp [aeqp] at h
  | some (some _), some none, h => by simp [aeqp] at h
theorem steq_eq {a b : LoopState} (h : steq a b = true) : a = b := by cases a <;> cases b <;> first | rfl | simp [steq] at h
theorem aeqm_eq : ∀ (a b : List (AV × AV × Nat)), aeqm a b = true → a = b
  | [], [], _ => rfl
  | [], _ :: _, h => by simp [aeqm] at h
  | _ :: _, [], h => by simp [aeqm] at h
  | (k, v, b) :: l, (k', v', b') :: m, h => by
    simp [aeqm] at h
    obtain ⟨⟨⟨h1, h2⟩, h3⟩, h4⟩ := h
    rw [aeq_eq _ _ h1, aeq_eq _ _ h2, h3, aeqm_eq l m h4]
theorem beqAB_eq {a b : AB} (h : beqAB a b = true) : a = b := by
  cases a <;> cases b <;> simp [beqAB] at h <;> try rfl
  · obtain ⟨⟨h1, h2⟩, h3⟩ := h; rw [beqB_eq.1 h1, h2, aeqs_eq _ _ h3]
  · rw [aeqm_eq _ _ h.1, h.2]
  · obtain ⟨⟨⟨h1, h2⟩, h3⟩, h4⟩ := h; rw [oeq_eq _ _ h1, h2, neqs_eq _ _ h3, h4]
  · rw [beqB_eq.1 h]
  · rw [(seq8_iff _ _).1 h.1, h.2]
  · rw [steq_eq h.1, aeqp_eq _ _ h.2]
theorem beqT_eq {α : Type} {f : α → α → Bool} (hf : ∀ a b, f a b = true → a = b) : ∀ (a b : T α), beqT f a b = true → a = b
  | .e, .e, _ => rfl
  | .e, .n .., h => by simp [beqT] at h
  | .n .., .e, h => by simp [beqT] at h
  | .n l v r, .n l' v' r', h => by
    simp only [beqT, Bool.and_eq_true] at h
    obtain ⟨⟨h1, h2⟩, h3⟩ := h
    have hv : v = v' := by
      cases v <;> cases v' <;> simp [beqO] at h1 <;> first | rfl | (rw [hf _ _ h1])
    rw [hv, beqT_eq hf l l' h2, beqT_eq hf r r' h3]
theorem aeqD_eq : ∀ (a b : List AD), aeqD a b = true → a = b
  | [], [], _ => rfl
  | [], _ :: _, h => by simp [aeqD] at h
  | .mk _ :: _, [], h => by simp [aeqD] at h
  | .fn .. :: _, [], h => by simp [aeqD] at h
  | .mk a :: l, .mk b :: m, h => by
    simp [aeqD] at h
    rw [h.1, aeqD_eq l m h.2]
  | .mk a :: l, .fn .. :: m, h => by simp [aeqD] at h
  | .fn .. :: l, .mk b :: m, h => by simp [aeqD] at h
  | .fn f c x :: l, .fn f' c' x' :: m, h => by
    simp [aeqD] at h
    obtain ⟨⟨⟨h1, h2⟩, h3⟩, h4⟩ := h
    rw [h1, aeqs_eq _ _ h2, aeqs_eq _ _ h3, aeqD_eq l m h4]

/-! ### Lists -/
theorem countA_eq {α : Type} : ∀ l : List α, countA l = l.length
  | [] => rfl
  | _ :: l => by simp [countA, countA_eq l]
theorem nth_eq {α : Type} : ∀ (l : List α) (n : Nat), nth l n = l[n]?
  | [], n => by simp [nth]
  | _ :: _, 0 => rfl
  | _ :: l, n + 1 => by simp [nth, nth_eq l n]
theorem dropped_eq {α : Type} : ∀ (l : List α) (n : Nat), dropped l n = l.drop n
  | l, 0 => by cases l <;> rfl
  | [], n + 1 => rfl
  | _ :: l, n + 1 => by simp [dropped, dropped_eq l n]
theorem joined_eq {α : Type} : ∀ (l m : List α), joined l m = l ++ m
  | [], _ => rfl
  | _ :: l, m => by simp [joined, joined_eq l m]
theorem copies_eq {α : Type} (z : List α) : ∀ n, copies n z = (List.replicate n z).flatten
  | 0 => rfl
  | n + 1 => by simp [copies, joined_eq, copies_eq z n, List.replicate_succ]
theorem taken_eq {α : Type} : ∀ {l : List α} {n : Nat} {r : List α}, taken l n = some r → n ≤ l.length ∧ r = l.take n
  | l, 0, r, h => by cases l <;> simp [taken] at h <;> simp [← h]
  | [], n + 1, r, h => by simp [taken] at h
  | x :: l, n + 1, r, h => by
    simp only [taken] at h
    split at h
    · rename_i q hq
      simp at h; subst h
      obtain ⟨h1, h2⟩ := taken_eq hq
      subst h2
      simp; omega
    · simp at h

/-! ### Names and places -/
structure Le (ρ ρ' : Rho) : Prop where
  pl : ∀ a r, ρ.pl a = some r → ρ'.pl a = some r
  op : ρ'.op = ρ.op
  lr : ∀ a r, ρ.pl a = some r → ρ'.lr a = ρ.lr a
theorem Le.refl (ρ : Rho) : Le ρ ρ := ⟨fun _ _ h => h, rfl, fun _ _ _ => rfl⟩
theorem Le.trans {a b c : Rho} (h : Le a b) (k : Le b c) : Le a c :=
  ⟨fun x r hx => k.pl x r (h.pl x r hx), k.op.trans h.op, fun x r hx => (k.lr x r (h.pl x r hx)).trans (h.lr x r hx)⟩

section
variable {ρ ρ' : Rho}
mutual
theorem conc_mono (hl : Le ρ ρ') : ∀ (x : AV) (v : Value), conc ρ x = some v → conc ρ' x = some v
  | .i k n, v, h => h
  | .b t, v, h => h
  | .s l, v, h => h
  | .p a o, v, h => by
    simp only [conc] at h ⊢
    cases hp : ρ.pl a with
    | none => rw [hp] at h; simp at h
    | some r => rw [hp] at h; rw [hl.pl a r hp]; exact h
  | .np, v, h => h
  | .sl a o n c, v, h => by
    simp only [conc] at h ⊢
    cases hp : ρ.pl a with
    | none => rw [hp] at h; simp at h
    | some r => rw [hp] at h; rw [hl.pl a r hp]; exact h
  | .su a o n c, v, h => by
    simp only [conc] at h ⊢
    cases hp : ρ.pl a with
    | none => rw [hp] at h; simp at h
    | some r => rw [hp] at h; rw [hl.pl a r hp]; exact h
  | .ns, v, h => h
  | .m a, v, h => by
    simp only [conc] at h ⊢
    cases hp : ρ.pl a with
    | none => rw [hp] at h; simp at h
    | some r => rw [hp] at h; rw [hl.pl a r hp]; exact h
  | .nm, v, h => h
  | .f f x y, v, h => by
    simp only [conc] at h ⊢
    split at h
    · rename_i a b ha hb
      rw [concs_mono hl x a ha, concs_mono hl y b hb]; exact h
    · simp at h
  | .nf, v, h => h
  | .y a, v, h => by
    simp only [conc] at h ⊢
    cases hp : ρ.pl a with
    | none => rw [hp] at h; simp at h
    | some r => rw [hp] at h; rw [hl.pl a r hp]; exact h
  | .ni, v, h => h
  | .e t x, v, h => by
    simp only [conc] at h ⊢
    split at h
    · rename_i a ha
      rw [conc_mono hl x a ha]; exact h
    · simp at h
  | .g l, v, h => by
    simp only [conc] at h ⊢
    split at h
    · rename_i a ha
      rw [concs_mono hl l a ha]; exact h
    · simp at h
  | .t l, v, h => by
    simp only [conc] at h ⊢
    split at h
    · rename_i a ha
      rw [concs_mono hl l a ha]; exact h
    · simp at h
  | .q j, v, h => by simp only [conc] at h ⊢; rw [hl.op]; exact h
theorem concs_mono (hl : Le ρ ρ') : ∀ (l : List AV) (vs : List Value), concs ρ l = some vs → concs ρ' l = some vs
  | [], vs, h => h
  | x :: l, vs, h => by
    simp only [concs] at h ⊢
    split at h
    · rename_i a b ha hb
      rw [conc_mono hl x a ha, concs_mono hl l b hb]; exact h
    · simp at h
end

theorem concs_cons {x : AV} {l : List AV} {vs : List Value} (h : concs ρ (x :: l) = some vs) : ∃ v us, vs = v :: us ∧ conc ρ x = some v ∧ concs ρ l = some us := by
  simp only [concs] at h
  split at h
  · rename_i a b ha hb
    simp at h
    exact ⟨a, b, h.symm, ha, hb⟩
  · simp at h
theorem concs_len : ∀ {l : List AV} {vs : List Value}, concs ρ l = some vs → vs.length = l.length
  | [], vs, h => by simp [concs] at h; simp [← h]
  | x :: l, vs, h => by
    obtain ⟨v, us, rfl, _, h2⟩ := concs_cons h
    simp [concs_len h2]
theorem concs_get : ∀ {l : List AV} {vs : List Value} {i : Nat} {a : AV}, concs ρ l = some vs → l[i]? = some a → ∃ v, vs[i]? = some v ∧ conc ρ a = some v
  | [], vs, i, a, h, hi => by simp at hi
  | x :: l, vs, i, a, h, hi => by
    obtain ⟨v, us, rfl, h1, h2⟩ := concs_cons h
    cases i with
    | zero => simp at hi; subst hi; exact ⟨v, rfl, h1⟩
    | succ i => simpa using concs_get h2 (by simpa using hi)
theorem concs_app : ∀ {l m : List AV} {vs us : List Value}, concs ρ l = some vs → concs ρ m = some us → concs ρ (l ++ m) = some (vs ++ us)
  | [], m, vs, us, h, hm => by simp [concs] at h; subst h; simpa using hm
  | x :: l, m, vs, us, h, hm => by
    obtain ⟨v, ws, rfl, h1, h2⟩ := concs_cons h
    simp only [List.cons_append, concs, h1, concs_app h2 hm]
theorem concs_take : ∀ {l : List AV} {vs : List Value} (n : Nat), concs ρ l = some vs → concs ρ (l.take n) = some (vs.take n)
  | l, vs, 0, h => by simp [concs]
  | [], vs, n + 1, h => by simp [concs] at h; subst h; rfl
  | x :: l, vs, n + 1, h => by
    obtain ⟨v, ws, rfl, h1, h2⟩ := concs_cons h
    simp only [List.take_succ_cons, concs, h1, concs_take n h2]
theorem concs_drop : ∀ {l : List AV} {vs : List Value} (n : Nat), concs ρ l = some vs → concs ρ (l.drop n) = some (vs.drop n)
  | l, vs, 0, h => by simpa using h
  | [], vs, n + 1, h => by simp [concs] at h; subst h; rfl
  | x :: l, vs, n + 1, h => by
    obtain ⟨v, ws, rfl, h1, h2⟩ := concs_cons h
    simpa using concs_drop n h2
theorem concs_splice : ∀ {l : List AV} {vs : List Value} (o : Nat) {m : List AV} {us : List Value}, concs ρ l = some vs → concs ρ m = some us → concs ρ (spliceA l o m) = some (splice vs o us)
  | l, vs, o, [], us, h, hm => by
    simp [concs] at hm; subst hm
    rw [splice_nil]
    have : spliceA l o [] = l := by cases l <;> rfl
    rw [this]; exact h
  | [], vs, o, y :: m, us, h, hm => by
    obtain ⟨u, ws, rfl, h1, h2⟩ := concs_cons hm
    simp [concs] at h; subst h
    rfl
  | x :: l, vs, 0, y :: m, us, h, hm => by
    obtain ⟨v, ws, rfl, h1, h2⟩ := concs_cons h
    obtain ⟨u, ws', rfl, h3, h4⟩ := concs_cons hm
    simp only [spliceA, splice, concs, h3, concs_splice 0 h2 h4]
  | x :: l, vs, o + 1, y :: m, us, h, hm => by
    obtain ⟨v, ws, rfl, h1, h2⟩ := concs_cons h
    obtain ⟨u, ws', rfl, h3, h4⟩ := concs_cons hm
    simp only [spliceA, splice, concs, h1, concs_splice o h2 (show concs ρ (y :: m) = some (u :: ws') by simp only [concs, h3, h4])]
theorem concs_rep {z : List AV} {zs : List Value} (h : concs ρ z = some zs) : ∀ n, concs ρ ((List.replicate n z).flatten) = some ((List.replicate n zs).flatten)
  | 0 => rfl
  | n + 1 => by
    rw [List.replicate_succ, List.replicate_succ, List.flatten_cons, List.flatten_cons]
    exact concs_app h (concs_rep h n)
theorem splice_len : ∀ (l : List AV) (o : Nat) (vs : List AV), (spliceA l o vs).length = l.length
  | l, o, [] => by cases l <;> rfl
  | [], _, _ :: _ => rfl
  | x :: l, 0, v :: vs => by simp [spliceA, splice_len l 0 vs]
  | x :: l, o + 1, v :: vs => by simp [spliceA, splice_len l o (v :: vs)]

theorem one_cells {v : Value} (h : v.oneCell' = true) : v.cells.toList = [v] := by
  cases v <;> first | rfl | simp [Value.oneCell'] at h
theorem conc_cells {x : AV} {v : Value} {l : List AV} (hx : conc ρ x = some v) (hc : acells x = some l) : concs ρ l = some v.cells.toList := by
  have one : ∀ {v : Value}, conc ρ x = some v → v.cells.toList = [v] → l = [x] → concs ρ l = some v.cells.toList := by
    intro v h1 h2 h3
    rw [h2, h3]
    simp [concs, h1]
  cases x <;> simp only [acells, Option.some.injEq] at hc <;> try (cases hc; done)
  case g m =>
    subst hc
    simp only [conc] at hx
    split at hx
    · rename_i a ha
      simp at hx; subst hx
      simpa [Value.cells] using ha
    · simp at hx
  all_goals
    refine one hx ?_ hc.symm
    simp only [conc] at hx
    (repeat' split at hx) <;> first | (simp at hx; done) | (simp at hx; subst hx; first | rfl | exact one_cells (ρ.op1 _))

theorem conc_one {x : AV} {v : Value} (hx : conc ρ x = some v) (h1 : one1 x = true) : v.oneCell' = true := by
  cases x <;> simp [one1] at h1 <;> simp only [conc] at hx <;> (repeat' split at hx) <;> first | (simp at hx; done) | (simp at hx; subst hx; first | rfl | exact ρ.op1 _)
theorem concs_ones : ∀ {l : List AV} {vs : List Value}, concs ρ l = some vs → onesA l = true → ∀ u ∈ vs, u.oneCell' = true
  | [], vs, h, _, u, hu => by simp [concs] at h; subst h; simp at hu
  | x :: l, vs, h, h1, u, hu => by
    obtain ⟨v, ws, rfl, h2, h3⟩ := concs_cons h
    simp [onesA] at h1
    rcases List.mem_cons.1 hu with rfl | hu
    · exact conc_one h2 h1.1
    · exact concs_ones h3 h1.2 u hu

theorem aval_conc {v : Value} {x : AV} (h : aval v = some x) : conc ρ x = some v := by
  unfold aval at h
  split at h <;> simp at h <;> subst h <;> rfl
theorem avals_conc : ∀ {vs : List Value} {l : List AV}, avals vs = some l → concs ρ l = some vs
  | [], l, h => by simp [avals] at h; subst h; rfl
  | v :: vs, l, h => by
    simp only [avals] at h
    split at h
    · rename_i a b ha hb
      simp at h; subst h
      simp only [concs, aval_conc ha, avals_conc hb]
    · simp at h
theorem avalg_conc {v : Value} {x : AV} (h : avalg v = some x) : conc ρ x = some v := by
  unfold avalg at h
  split at h
  · split at h
    · rename_i l y hy
      simp at h; subst h
      simp only [conc, avals_conc hy]
    · simp at h
  · exact aval_conc h

/-! ### What a heap of names says -/
def pcode : APend → Option Code
  | none => none
  | some none => some .ret
  | some (some id) => some (.exit id)

def RM (ρ : Rho) : List (AV × AV × Nat) → List MapEntry → Prop
  | [], [] => True
  | (k, v, b) :: es, e :: ms => conc ρ k = some e.key ∧ conc ρ v = some e.val ∧ e.born = b ∧ RM ρ es ms
  | _, _ => False

def RB (ρ : Rho) (h : Heap) (a : Nat) (r : Nat × Nat × Nat) : AB → Prop
  | .cells w gz l => ∃ vs pre tail, concs ρ l = some vs ∧ pre.length = r.2.1 ∧ (gz % gM ≠ 0 → l.length ≤ r.2.2 * (gz % gM) ∧ r.2.2 * (gz % gM) ≤ l.length + tail.length) ∧
    (match w with
      | true => BlkW h r.1 (pre ++ (vs ++ tail))
      | false => Blk h r.1 (pre ++ (vs ++ tail))) ∧
    (gz / gM ≠ 0 → r.2.1 = 0 ∧ TyB h r.1 (gz / gM) ∧ (gz % gM = 0 → tail = []))
  | .map es c => ∃ ms, MapB h r.1 ms c ∧ RM ρ es ms
  | .iter m since seen last => h[r.1]? = some (.mapIter (match m with | none => none | some x => match ρ.pl x with | some q => some q.1 | none => none) since ⟨seen⟩ last) ∧ (∀ x, m = some x → ∃ q, ρ.pl x = some q) ∧ r.2.1 = 0
  | .siter l pos => h[r.1]? = some (.stringIter ⟨⟨l⟩⟩ pos) ∧ r.2.1 = 0
  | .dfd t => h[r.1]? = some (.deferred (bif t then some [] else none))
  | .loop st p => LoopB h r.1 (ρ.lr a) st (pcode p)
  | .dead => True

structure Rep (F : Nat → Prop) (h0 : Heap) (ρ : Rho) (H : AH) (h : Heap) : Prop where
  fr : ∀ k, F k → k < h.size ∧ h[k]? = h0[k]?
  dom : ∀ a r, ρ.pl a = some r → H.get a ≠ none
  obj : ∀ a B, H.get a = some B → B ≠ .dead → ∃ r, ρ.pl a = some r ∧ (gtop ≤ a → ¬ F r.1) ∧ r.1 < h.size ∧ RB ρ h a r B
  inj : ∀ a a' B B' r r', H.get a = some B → B ≠ .dead → H.get a' = some B' → B' ≠ .dead → ρ.pl a = some r → ρ.pl a' = some r' → a ≠ a' → r.1 ≠ r'.1
  gl : ∀ g r, g < gtop → ρ.pl g = some r → r.1 = g ∧ r.2.1 = 0

def RE (ρ : Rho) (E : AE) (σ : Env) : Prop := ∀ t a, E.get t = some a → ∃ v, conc ρ a = some v ∧ σ t = some v

theorem RE.mono {E : AE} {σ : Env} (hl : Le ρ ρ') (h : RE ρ E σ) : RE ρ' E σ := fun t a ht => let ⟨v, h1, h2⟩ := h t a ht; ⟨v, conc_mono hl a v h1, h2⟩

theorem RM.mono (hl : Le ρ ρ') : ∀ {es : List (AV × AV × Nat)} {ms : List MapEntry}, RM ρ es ms → RM ρ' es ms
  | [], [], _ => trivial
  | [], _ :: _, h => h.elim
  | _ :: _, [], h => by simp [RM] at h
  | (k, v, b) :: es, e :: ms, ⟨h1, h2, h3, h4⟩ => ⟨conc_mono hl _ _ h1, conc_mono hl _ _ h2, h3, h4.mono hl⟩

theorem RB.mono {h : Heap} {a : Nat} {r : Nat × Nat × Nat} {B : AB} (hl : Le ρ ρ') (ha : ρ.pl a = some r) (hb : RB ρ h a r B) : RB ρ' h a r B := by
  cases B with
  | cells w gz l =>
    obtain ⟨vs, pre, tail, h1, h2⟩ := hb
    exact ⟨vs, pre, tail, concs_mono hl _ _ h1, h2⟩
  | map es c =>
    obtain ⟨ms, h1, h2⟩ := hb
    exact ⟨ms, h1, h2.mono hl⟩
  | iter m since seen last =>
    obtain ⟨h1, h2, h3⟩ := hb
    refine ⟨?_, fun x hx => ?_, h3⟩
    · rw [h1]
      cases m with
      | none => rfl
      | some x =>
        obtain ⟨q, hq⟩ := h2 x rfl
        simp only [hq, hl.pl x q hq]
    · obtain ⟨q, hq⟩ := h2 x hx
      exact ⟨q, hl.pl x q hq⟩
  | dfd t => exact hb
  | siter l pos => exact hb
  | loop st p =>
    simp only [RB] at hb ⊢
    rw [hl.lr a r ha]; exact hb
  | dead => trivial

theorem RB.congr {h h' : Heap} {a : Nat} {r : Nat × Nat × Nat} {B : AB} (he : h'[r.1]? = h[r.1]?) (hb : RB ρ h a r B) : RB ρ h' a r B := by
  cases B with
  | cells w gz l =>
    obtain ⟨vs, pre, tail, h1, h2, h3, h4, h7⟩ := hb
    refine ⟨vs, pre, tail, h1, h2, h3, ?_, fun hz => ?_⟩
    · cases w with
      | true => obtain ⟨e, k, h5, h6⟩ := h4; exact ⟨e, k, by rw [he]; exact h5, h6⟩
      | false => obtain ⟨e, h5⟩ := h4; exact ⟨e, by rw [he]; exact h5⟩
    · obtain ⟨h8, ⟨c, k, h9⟩, h10⟩ := h7 hz
      exact ⟨h8, ⟨c, k, by rw [he]; exact h9⟩, h10⟩
  | map es c =>
    obtain ⟨ms, h1, h2⟩ := hb
    exact ⟨ms, by unfold MapB; rw [he]; exact h1, h2⟩
  | iter m since seen last => obtain ⟨h1, h2⟩ := hb; exact ⟨by rw [he]; exact h1, h2⟩
  | dfd t => simp only [RB] at hb ⊢; rw [he]; exact hb
  | siter l pos => simp only [RB] at hb ⊢; rw [he]; exact hb
  | loop st p => exact ⟨by rw [he]; exact hb.at_⟩
  | dead => trivial

variable {F : Nat → Prop} {h0 h h' : Heap} {H H' : AH} {E : AE} {σ : Env}

theorem wput_spec {a : Nat} {B : Option AB} (h : T.wput H a B = some H') : gtop ≤ a ∧ H.put a B = some H' := by
  unfold T.wput at h
  cases hb : Nat.blt a gtop with
  | true => rw [hb] at h; simp at h
  | false =>
    rw [hb] at h
    refine ⟨?_, h⟩
    rcases Nat.lt_or_ge a gtop with hlt | hge
    · exact absurd (Nat.ble_eq_true_of_le hlt) (by rw [show Nat.ble (a + 1) gtop = Nat.blt a gtop from rfl, hb]; simp)
    · exact hge

/-- One name's block has turned. -/
theorem Rep.set (hR : Rep F h0 ρ H h) {a : Nat} {B B' : AB} {r : Nat × Nat × Nat} (hB : H.get a = some B) (hd : B ≠ .dead) (hr : ρ.pl a = some r) (hp : T.wput H a (some B') = some H')
    (hsz : h'.size = h.size) (hold : ∀ k, k ≠ r.1 → h'[k]? = h[k]?) (hb : B' ≠ .dead → RB ρ h' a r B') : Rep F h0 ρ H' h' := by
  obtain ⟨r', hr', hF', hlt, _⟩ := hR.obj a B hB hd
  rw [hr] at hr'; simp at hr'; subst hr'
  obtain ⟨hga, hp⟩ := wput_spec hp
  have hF := hF' hga
  have get : ∀ j, H'.get j = if j = a then some B' else H.get j := T.put_get hp
  refine ⟨fun k hk => ?_, fun x q hx => ?_, fun x C hC hCd => ?_, fun x y C D q q' hC hCd hD hDd hq hq' hne => ?_, hR.gl⟩
  · obtain ⟨h1, h2⟩ := hR.fr k hk
    have : k ≠ r.1 := fun e => hF (by rw [← e]; exact hk)
    exact ⟨by omega, by rw [hold k this]; exact h2⟩
  · rw [get x]
    split
    · simp
    · exact hR.dom x q hx
  · rw [get x] at hC
    split at hC
    · rename_i hx; subst hx
      simp at hC; subst hC
      exact ⟨r, hr, hF', by omega, hb hCd⟩
    · rename_i hx
      obtain ⟨q, h1, h2, h3, h4⟩ := hR.obj x C hC hCd
      have hne : q.1 ≠ r.1 := hR.inj x a C B q r hC hCd hB hd h1 hr hx
      exact ⟨q, h1, h2, by omega, h4.congr (hold q.1 hne)⟩
  · rw [get x] at hC
    rw [get y] at hD
    split at hC <;> split at hD
    · rename_i h1 h2; exact absurd (h1.trans h2.symm) hne
    · rename_i h1 h2; subst h1
      exact hR.inj x y B D q q' hB hd hD hDd hq hq' hne
    · rename_i h1 h2; subst h2
      exact hR.inj x y C B q q' hC hCd hB hd hq hq' hne
    · exact hR.inj x y C D q q' hC hCd hD hDd hq hq' hne

theorem Rep.kill (hR : Rep F h0 ρ H h) {a : Nat} {B : AB} (hB : H.get a = some B) (hd : B ≠ .dead) (hp : T.wput H a (some .dead) = some H') : Rep F h0 ρ H' h := by
  obtain ⟨r, hr, _⟩ := hR.obj a B hB hd
  exact hR.set hB hd hr hp rfl (fun _ _ => rfl) (fun h => absurd rfl h)

theorem grow_spec {id : Nat} {B : AB} (hg : grow H id B = some H') : gtop ≤ id ∧ H.get id = none ∧ ∀ j, H'.get j = if j = id then some B else H.get j := by
  unfold grow at hg
  cases hb : Nat.blt id gtop with
  | true => rw [hb] at hg; simp at hg
  | false =>
    rw [hb] at hg
    simp only [cond_false] at hg
    split at hg
    · rename_i hn
      refine ⟨?_, hn, T.put_get hg⟩
      rcases Nat.lt_or_ge id gtop with hlt | hge
      · exact absurd (Nat.ble_eq_true_of_le hlt) (by rw [show Nat.ble (id + 1) gtop = Nat.blt id gtop from rfl, hb]; simp)
      · exact hge
    · simp at hg

/-- A name is new. -/
theorem Rep.add (hR : Rep F h0 ρ H h) {id b ba cp : Nat} {B : AB} (lr : Loop) (hg : grow H id B = some H') (hb : ∀ a' B' r', H.get a' = some B' → B' ≠ .dead → ρ.pl a' = some r' → r'.1 ≠ b) (hF : ¬ F b) (hlt : b < h'.size)
    (hsz : h.size ≤ h'.size) (hold : ∀ k, k ≠ b → k < h.size → h'[k]? = h[k]?)
    (hB : ∀ ρ', Le ρ ρ' → ρ'.pl id = some (b, ba, cp) → ρ'.lr id = lr → RB ρ' h' id (b, ba, cp) B) : ∃ ρ', Le ρ ρ' ∧ ρ'.pl id = some (b, ba, cp) ∧ ρ'.lr id = lr ∧ Rep F h0 ρ' H' h' := by
  obtain ⟨hid, hnone, get⟩ := grow_spec hg
  have hnp : ρ.pl id = none := by
    cases hp : ρ.pl id with
    | none => rfl
    | some r => exact absurd hnone (hR.dom id r hp)
  let ρ' : Rho := ⟨fun a => if a = id then some (b, ba, cp) else ρ.pl a, ρ.op, fun a => if a = id then lr else ρ.lr a, ρ.op1⟩
  have hle : Le ρ ρ' := by
    refine ⟨fun a r ha => ?_, rfl, fun a r ha => ?_⟩
    · show (if a = id then _ else _) = _
      rw [if_neg]
      · exact ha
      · rintro rfl; rw [hnp] at ha; simp at ha
    · show (if a = id then _ else _) = _
      rw [if_neg]
      rintro rfl; rw [hnp] at ha; simp at ha
  have hpl : ∀ a, ρ'.pl a = if a = id then some (b, ba, cp) else ρ.pl a := fun a => rfl
  have hnew : ρ'.pl id = some (b, ba, cp) := by rw [hpl, if_pos rfl]
  have hlr : ρ'.lr id = lr := if_pos rfl
  refine ⟨ρ', hle, hnew, hlr, ⟨fun k hk => ?_, fun x q hx => ?_, fun x C hC hCd => ?_, fun x y C D q q' hC hCd hD hDd hq hq' hne => ?_, fun g q hgl hq => ?_⟩⟩
  · obtain ⟨h1, h2⟩ := hR.fr k hk
    have : k ≠ b := fun e => hF (by rw [← e]; exact hk)
    exact ⟨by omega, by rw [hold k this h1]; exact h2⟩
  · rw [hpl] at hx
    rw [get x]
    split at hx
    · rename_i h1; rw [if_pos h1]; simp
    · rename_i h1; rw [if_neg h1]; exact hR.dom x q hx
  · rw [get x] at hC
    split at hC
    · rename_i hx; subst hx
      simp at hC; subst hC
      exact ⟨(b, ba, cp), hnew, fun _ => hF, hlt, hB ρ' hle hnew hlr⟩
    · rename_i hx
      obtain ⟨q, h1, h2, h3, h4⟩ := hR.obj x C hC hCd
      have hne : q.1 ≠ b := hb x C q hC hCd h1
      exact ⟨q, hle.pl x q h1, h2, by omega, (h4.mono hle h1).congr (hold q.1 hne h3)⟩
  · rw [get x] at hC
    rw [get y] at hD
    rw [hpl] at hq hq'
    split at hC <;> split at hD
    · rename_i h1 h2; exact absurd (h1.trans h2.symm) hne
    · rename_i h1 h2
      rw [if_pos h1] at hq; rw [if_neg h2] at hq'
      simp at hq; subst hq
      exact fun e => hb y D q' hD hDd hq' e.symm
    · rename_i h1 h2
      rw [if_neg h1] at hq; rw [if_pos h2] at hq'
      simp at hq'; subst hq'
      exact hb x C q hC hCd hq
    · rename_i h1 h2
      rw [if_neg h1] at hq; rw [if_neg h2] at hq'
      exact hR.inj x y C D q q' hC hCd hD hDd hq hq' hne
  · rw [hpl] at hq
    split at hq
    · rename_i h1; omega
    · exact hR.gl g q hgl hq

/-- A name for a new block. -/
theorem Rep.new (hR : Rep F h0 ρ H h) {id b cp : Nat} {B : AB} (hg : grow H id B = some H') (hid : b = h.size) (hsz : h'.size = h.size + 1) (hold : ∀ k, k < h.size → h'[k]? = h[k]?)
    (hB : ∀ ρ', Le ρ ρ' → ρ'.pl id = some (b, 0, cp) → RB ρ' h' id (b, 0, cp) B) : ∃ ρ', Le ρ ρ' ∧ ρ'.pl id = some (b, 0, cp) ∧ Rep F h0 ρ' H' h' := by
  subst hid
  obtain ⟨ρ', h1, h2, _, h3⟩ := hR.add (ba := 0) (cp := cp) default hg (fun a' B' r' h1 h2 h3 => by
      obtain ⟨q, hq, _, hlt, _⟩ := hR.obj a' B' h1 h2
      rw [h3] at hq; simp at hq; subst hq
      omega) (fun hF => by have := (hR.fr _ hF).1; omega) (by omega) (by omega) (fun k _ hk => hold k hk) (fun ρ' hl hp _ => hB ρ' hl hp)
  exact ⟨ρ', h1, h2, h3⟩

theorem aev_sound (hR : Rep F h0 ρ H h) (hE : RE ρ E σ) {x : Operand} {a : AV} (hx : aev H E x = some a) : ∃ v, conc ρ a = some v ∧ ev σ x = some v := by
  cases x with
  | tmp t => exact hE t a hx
  | const c => exact ⟨c, aval_conc hx, rfl⟩
  | func f => simp [aev] at hx; subst hx; exact ⟨_, rfl, rfl⟩
  | global g =>
    simp only [aev] at hx
    split at hx
    · rename_i w gz l hg
      cases hb : Nat.blt g gtop with
      | false => rw [hb] at hx; simp at hx
      | true =>
        rw [hb] at hx
        simp at hx; subst hx
        obtain ⟨r, hr, _⟩ := hR.obj g _ hg (by simp)
        obtain ⟨h1, h2⟩ := hR.gl g r (Nat.le_of_ble_eq_true hb) hr
        refine ⟨.pointer (some ⟨g, 0, none⟩), ?_, rfl⟩
        obtain ⟨b, ba, cp⟩ := r
        simp at h1 h2
        simp [conc, hr, h1, h2]
    · simp at hx
theorem aevs_sound (hR : Rep F h0 ρ H h) (hE : RE ρ E σ) : ∀ {xs : List Operand} {l : List AV}, aevs H E xs = some l → ∃ vs, concs ρ l = some vs ∧ evs σ xs = some vs
  | [], l, h => by simp [aevs] at h; subst h; exact ⟨[], rfl, rfl⟩
  | x :: xs, l, h => by
    simp only [aevs] at h
    split at h
    · rename_i a b ha hb
      simp at h; subst h
      obtain ⟨v, h1, h2⟩ := aev_sound hR hE ha
      obtain ⟨vs, h3, h4⟩ := aevs_sound hR hE hb
      exact ⟨v :: vs, by simp only [concs, h1, h3], by simp only [evs, h2, h4]⟩
    · simp at h

theorem RE.upd (hE : RE ρ E σ) {d : Option Nat} {a : AV} {v : Value} (hv : conc ρ a = some v) {E' : AE} (hu : aupd E d a = some E') : RE ρ E' (upd σ d v) := by
  cases d with
  | none => simp [aupd] at hu; subst hu; exact hE
  | some d =>
    have get := T.put_get (t := E) (k := d) (v := some a) hu
    intro t x ht
    rw [get t] at ht
    split at ht
    · rename_i h1; subst h1
      simp at ht; subst ht
      exact ⟨v, hv, by simp [Sx.upd]⟩
    · rename_i h1
      obtain ⟨u, h2, h3⟩ := hE t x ht
      exact ⟨u, h2, by rw [upd_ne (by intro e; exact h1 (by simpa using e.symm))]; exact h3⟩

end
end Go.Sx
