/-
  Small words for the walks: contracts that return, the heap's changes, numbers in range.
-/
import Derived.Test.YtaeabfemedamhaaGreatDoorSxO
namespace Go.Sx
open Go

/-- A loop: what its slots hold at each round's head, a measure. -/
theorem loop_intro {P : Program} {c : SCode} {Q : Post} {σ : Env} {ds : List Deferred} {h : Heap} {ι : Type} (E : ι → List (Nat × Value)) (I : ι → Heap → Prop) (μ : ι → Nat) (i : ι) (h0 : SubL σ (E i)) (hI : I i h)
    (hr : ∀ i h, I i h → swp P c (thenQ (fun σ' ds' h' => ds' = ds ∧ ∃ i', SubL σ' (E i') ∧ I i' h' ∧ μ i' < μ i) Q) (mk (E i)) ds h) :
    ∃ (ι : Type) (E : ι → List (Nat × Value)) (I : ι → Heap → Prop) (μ : ι → Nat) (i : ι), SubL σ (E i) ∧ I i h ∧
      ∀ i h, I i h → swp P c (thenQ (fun σ' ds' h' => ds' = ds ∧ ∃ i', SubL σ' (E i') ∧ I i' h' ∧ μ i' < μ i) Q) (mk (E i)) ds h :=
  ⟨ι, E, I, μ, i, h0, hI, hr⟩

/-- The end of a round. -/
theorem round_end {ι : Type} {σ' : Env} {ds ds' : List Deferred} {h' : Heap} {E : ι → List (Nat × Value)} {I : ι → Heap → Prop} {μ : ι → Nat} {i : ι} (i' : ι) (hd : ds' = ds) (h1 : SubL σ' (E i')) (h2 : I i' h') (h3 : μ i' < μ i) :
    ds' = ds ∧ ∃ i', SubL σ' (E i') ∧ I i' h' ∧ μ i' < μ i := ⟨hd, i', h1, h2, h3⟩

/-- It returns, and so. -/
def Ret (Q : Value → Heap → Prop) : Ending → Heap → Prop
  | .returned v, h => Q v h
  | _, _ => False

theorem call_ret {P : Program} {f : Nat} {vs : List Value} {h : Heap} {Q K : Value → Heap → Prop} {Qp : List PanicEntry → Heap → Prop} (hc : CallsH P f vs h (Ret Q)) (hk : ∀ v h', Q v h' → K v h') :
    CallsH P f vs h (after K Qp) :=
  hc.mono fun e h' he => by cases e <;> first | exact hk _ _ he | exact he.elim

theorem callq_ret {P : Program} {f : Nat} {vs : List Value} {h : Heap} {Q K : Value → Heap → Prop} {Qp : List PanicEntry → Heap → Prop} (hc : CallsH P f vs h (Ret Q)) (hk : ∀ v h', Q v h' → Ext h h' ∧ K v h') :
    CallsH P f vs h (fun e h' => Ext h h' ∧ after K Qp e h') :=
  hc.mono fun e h' he => by cases e <;> first | exact hk _ _ he | exact he.elim

theorem Ret.mono {P : Program} {f : Nat} {vs : List Value} {h : Heap} {Q Q' : Value → Heap → Prop} (hc : CallsH P f vs h (Ret Q)) (hk : ∀ v h', Q v h' → Q' v h') : CallsH P f vs h (Ret Q') :=
  hc.mono fun e h' he => by cases e <;> first | exact hk _ _ he | exact he.elim

/-! ### Numbers -/
theorem wrap_in {x : Int} (h0 : -9223372036854775808 ≤ x) (h1 : x < 9223372036854775808) : IntKind.i64.wrap x = x := by
  have e : IntKind.i64.wrap x = if x % 18446744073709551616 ≥ 9223372036854775808 then x % 18446744073709551616 - 18446744073709551616 else x % 18446744073709551616 := by
    simp [IntKind.wrap, IntKind.bits, IntKind.signed]
  rw [e]
  split <;> omega

theorem add_in {a b z : Int} (hz : z = arith .add .i64 a b) (h0 : -9223372036854775808 ≤ a + b) (h1 : a + b < 9223372036854775808) : z = a + b := by
  rw [hz]; exact wrap_in h0 h1
theorem sub_in {a b z : Int} (hz : z = arith .sub .i64 a b) (h0 : -9223372036854775808 ≤ a - b) (h1 : a - b < 9223372036854775808) : z = a - b := by
  rw [hz]; exact wrap_in h0 h1

/-! ### Changes of the heap -/
theorem Chg.refl (h : Heap) : Chg [] h h := ⟨Nat.le_refl _, fun _ _ _ => rfl⟩
theorem Chg.trans {S T U : List Nat} {a b c : Heap} (h1 : Chg S a b) (h2 : Chg T b c) (hS : ∀ k, k ∈ S → k ∈ U) (hT : ∀ k, k ∈ T → k < a.size → k ∈ U) : Chg U a c :=
  ⟨Nat.le_trans h1.size h2.size, fun k hk hn => by
    rw [h2.old k (Nat.lt_of_lt_of_le hk h1.size) (fun ht => hn (hT k ht hk)), h1.old k hk (fun hs => hn (hS k hs))]⟩
theorem Chg.nil {a b c : Heap} (h1 : Chg [] a b) (h2 : Chg [] b c) : Chg [] a c := h1.trans h2 (by simp) (by simp)
theorem Chg.ext {a b : Heap} (h : Chg [] a b) : Ext a b := fun k hk => h.old k hk (by simp)
theorem Chg.mono {S T : List Nat} {a b : Heap} (h : Chg S a b) (hs : ∀ k, k ∈ S → k ∈ T) : Chg T a b := ⟨h.size, fun k hk hn => h.old k hk fun e => hn (hs k e)⟩
/-- Blocks that are new do not count. -/
theorem Chg.fresh {S : List Nat} {a b c : Heap} (h1 : Chg [] a b) (h2 : Chg S b c) (hS : ∀ k, k ∈ S → a.size ≤ k) : Chg [] a c :=
  h1.trans h2 (by simp) fun k hk hlt => absurd (hS k hk) (by omega)
theorem Grow.chg {h h' : Heap} {b : Nat} {l : List Value} (g : Grow h h' b l) : Chg [] h h' := ⟨by rw [g.size]; omega, fun k hk _ => g.old k hk⟩
theorem GrowO.chg {h h' : Heap} {b : Nat} {o : Obj} (g : GrowO h h' b o) : Chg [] h h' := ⟨by rw [g.size]; omega, fun k hk _ => g.old k hk⟩
theorem Put.chg {h h' : Heap} {b : Nat} {l : List Value} (g : Put h h' b l) : Chg [b] h h' := ⟨by rw [g.size]; exact Nat.le_refl _, fun k _ hn => g.old k (by simpa using hn)⟩
theorem PutO.chg {h h' : Heap} {b : Nat} {o : Obj} (g : PutO h h' b o) : Chg [b] h h' := ⟨by rw [g.size]; exact Nat.le_refl _, fun k _ hn => g.old k (by simpa using hn)⟩
theorem Turn.chg {h h' : Heap} {l : Nat} {r : Loop} {st : LoopState} {p : Option Code} (g : Turn h h' l r st p) : Chg [l] h h' := ⟨by rw [g.size]; exact Nat.le_refl _, fun k _ hn => g.old k (by simpa using hn)⟩

theorem get_lt {h : Heap} {b : Nat} {x : Obj} (hb : h[b]? = some x) : b < h.size := (Array.getElem?_eq_some_iff.1 hb).1
theorem Blk.lt {h : Heap} {b : Nat} {l : List Value} (hb : Blk h b l) : b < h.size := let ⟨_, x⟩ := hb; get_lt x
theorem MapB.lt {h : Heap} {b c : Nat} {es : List MapEntry} (hb : MapB h b es c) : b < h.size := get_lt hb
theorem get_chg {S : List Nat} {h h' : Heap} {b : Nat} {x : Obj} (hb : h[b]? = some x) (hc : Chg S h h') (hn : b ∉ S) : h'[b]? = some x := by
  rw [hc.old b (get_lt hb) hn, hb]
theorem Blk.chg {S : List Nat} {h h' : Heap} {b : Nat} {l : List Value} (hb : Blk h b l) (hc : Chg S h h') (hn : b ∉ S) : Blk h' b l := let ⟨e, x⟩ := hb; ⟨e, get_chg x hc hn⟩
theorem MapB.chg {S : List Nat} {h h' : Heap} {b c : Nat} {es : List MapEntry} (hb : MapB h b es c) (hc : Chg S h h') (hn : b ∉ S) : MapB h' b es c := get_chg hb hc hn

theorem cell_blk {h : Heap} {b o : Nat} {l : List Value} {v : Value} (hb : Blk h b l) (hv : l[o]? = some v) : cell h b o = some v := by
  obtain ⟨e, x⟩ := hb
  simp [cell, x, hv]
theorem cells_blk {h : Heap} {b : Nat} {l : List Value} (hb : Blk h b l) : Cells h b 0 l := fun i v hv => by rw [Nat.zero_add]; exact cell_blk hb hv
theorem cells_part {h : Heap} {b o : Nat} {l vs : List Value} (hb : Blk h b l) (hv : ∀ i v, vs[i]? = some v → l[o + i]? = some v) : Cells h b o vs := fun i v h1 => cell_blk hb (hv i v h1)
theorem cell_lt {h : Heap} {b o : Nat} {v : Value} (hc : cell h b o = some v) : b < h.size := by
  unfold cell at hc
  cases hb : h[b]? with
  | none => rw [hb] at hc; cases hc
  | some x => exact get_lt hb
theorem cell_chg {S : List Nat} {h h' : Heap} {b o : Nat} {v : Value} (hc : cell h b o = some v) (hg : Chg S h h') (hn : b ∉ S) : cell h' b o = some v := by
  have := hg.old b (cell_lt hc) hn
  unfold cell at hc ⊢
  rw [this]; exact hc

end Go.Sx
