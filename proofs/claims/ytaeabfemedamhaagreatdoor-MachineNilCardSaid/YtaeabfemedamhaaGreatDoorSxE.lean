/-
  The simplified operations are sound, one by one: memory, numbers, tests.
-/
import Derived.Test.YtaeabfemedamhaaGreatDoorSxD
import Derived.Laws.BytesArg
namespace Go.Sx
open Go

variable {P : Program} {σ : Env} {ρ : Operand → Value} {w : World} {K : Value → Heap → Prop} {Qp : List PanicEntry → Heap → Prop}

theorem gives_ld1 {t : TypeId} {x : Operand} (hρ : Knows σ ρ) (hg : aggOf P t = some false) (h : sop P σ w.heap K Qp (.ld1 x)) :
    Gives P (do pure (.value (← Instr.loadAt t (ρ x)))) w K := by
  simp only [sop] at h
  split at h
  · rename_i b o hx
    obtain ⟨v, hc, hk⟩ := h
    rw [hρ x _ hx]
    exact Gives.same (run_loadAt1 hg w rfl hc) hk
  · exact h.elim

theorem gives_ldn {t : TypeId} {n : Nat} {x : Operand} (hρ : Knows σ ρ) (hg : aggOf P t = some true) (hs : szOf P t = some n) (h : sop P σ w.heap K Qp (.ldn n x)) :
    Gives P (do pure (.value (← Instr.loadAt t (ρ x)))) w K := by
  simp only [sop] at h
  split at h
  · rename_i b o hx
    obtain ⟨vs, hn, hc, hk⟩ := h
    rw [hρ x _ hx]
    exact Gives.same (run_loadAtN hg hs hn w rfl hc) hk
  · exact h.elim

theorem gives_st {t : TypeId} {n : Nat} {x v : Operand} (hρ : Knows σ ρ) (hs : szOf P t = some n) (h : sop P σ w.heap K Qp (.st n x v)) :
    Gives P (do Instr.storeAt t (ρ x) (ρ v); pure .skip) w K := by
  simp only [sop] at h
  split at h
  · rename_i b o v' hx hv
    obtain ⟨l, ⟨e, hb⟩, hfit, hn, h1, hk⟩ := h
    obtain ⟨w', hr, hsame, hheap⟩ := run_storeCells' (P := P) b e v'.cells.toList 0 o l w hb (by rw [hn]; omega) h1
    rw [Nat.add_zero] at hheap
    rw [hρ x _ hx, hρ v _ hv]
    refine ⟨undef, w', .inr ⟨?_, rfl⟩, hsame, hk _ ?_⟩
    · have hne : ¬ (v'.cells.size ≠ n) := by simp at hn; simp [hn]
      have hr' : (storeCells ⟨b, o, none⟩ v'.cells.toList).run P w = .ok () w' := hr
      simp only [Instr.storeAt, Instr.sureAddr, storeVar, Sem.run_bind, Sem.run_pure, Result.andThen_ok, run_sizeOf' hs]
      rw [if_neg hne]
      simp [hr']
    · rw [hheap]; exact put_of_set hb
  · exact h.elim

theorem gives_nilck {x : Operand} (hρ : Knows σ ρ) (h : sop P σ w.heap K Qp (.nilck x)) (o : Oper) (ho : o.op = .nilCheck x) : Gives P (execOp ρ o) w K := by
  simp only [sop] at h
  split at h
  · rename_i a hx
    exact ⟨_, w, .inl (by simp [execOp, ho, hρ x _ hx]), SameB.refl w, h⟩
  · rename_i f fi c hx
    exact ⟨_, w, .inl (by simp [execOp, ho, hρ x _ hx]), SameB.refl w, h⟩
  · rename_i f fi c hx
    exact ⟨_, w, .inl (by simp [execOp, ho, hρ x _ hx]), SameB.refl w, h⟩
  · exact h.elim

theorem run_eqGuard_int (op : BinOp) (t : TypeId) (x y : Operand) (k k' : IntKind) (a b : Int) (w : World) : (eqGuard op t x y (.int k a) (.int k' b)).run P w = .ok () w := by
  cases op <;> simp [eqGuard]
theorem run_eqGuard_str (op : BinOp) (t : TypeId) (x y : Operand) (a b : ByteArray) (w : World) : (eqGuard op t x y (.string a) (.string b)).run P w = .ok () w := by
  cases op <;> simp [eqGuard]
theorem run_eqGuard_bool (op : BinOp) (t : TypeId) (x y : Operand) (a b : Bool) (w : World) : (eqGuard op t x y (.bool a) (.bool b)).run P w = .ok () w := by
  cases op <;> simp [eqGuard]

abbrev binSem (op : BinOp) (t : TypeId) (x y : Operand) (a b : Value) : Sem Next := do pure (.value (← (do eqGuard op t x y a b; binOp op t a b)))

theorem Gives.bin {op : BinOp} {t : TypeId} {x y : Operand} {a b v : Value} (hg : (eqGuard op t x y a b).run P w = .ok () w) (hr : (binOp op t a b).run P w = .ok v w) (hk : K v w.heap) :
    Gives P (binSem op t x y a b) w K :=
  ⟨v, w, .inl (by simp [binSem, hg, hr]), SameB.refl w, hk⟩

theorem gives_ar {op : BinOp} {t : TypeId} {x y : Operand} (hop : op = .add ∨ op = .sub ∨ op = .mul) (hρ : Knows σ ρ) (h : sop P σ w.heap K Qp (.ar op x y)) :
    Gives P (binSem op t x y (ρ x) (ρ y)) w K := by
  simp only [sop] at h
  split at h
  · rename_i k a k' b hx hy
    obtain ⟨rfl, hk⟩ := h
    rw [hρ x _ hx, hρ y _ hy]
    refine Gives.bin (run_eqGuard_int _ _ _ _ _ _ _ _ _) ?_ (hk _ rfl)
    rcases hop with rfl | rfl | rfl <;> simp [binOp, Op.intArith, arith]
  · exact h.elim

theorem gives_bit {op : BinOp} {t : TypeId} {x y : Operand} (hop : op = .and ∨ op = .or ∨ op = .xor ∨ op = .andNot) (hρ : Knows σ ρ) (h : sop P σ w.heap K Qp (.bit op x y)) :
    Gives P (binSem op t x y (ρ x) (ρ y)) w K := by
  simp only [sop] at h
  split at h
  · rename_i k a k' b hx hy
    obtain ⟨rfl, hk⟩ := h
    rw [hρ x _ hx, hρ y _ hy]
    refine Gives.bin (run_eqGuard_int _ _ _ _ _ _ _ _ _) ?_ (hk _ rfl)
    rcases hop with rfl | rfl | rfl | rfl <;> simp [binOp, Op.intBits, bitw]
  · exact h.elim

theorem gives_quo {t : TypeId} {x y : Operand} (hρ : Knows σ ρ) (h : sop P σ w.heap K Qp (.quo x y)) : Gives P (binSem .quo t x y (ρ x) (ρ y)) w K := by
  simp only [sop] at h
  split at h
  · rename_i k a k' b hx hy
    obtain ⟨rfl, hb, hk⟩ := h
    rw [hρ x _ hx, hρ y _ hy]
    refine Gives.bin (run_eqGuard_int _ _ _ _ _ _ _ _ _) ?_ (hk _ rfl)
    simp [binOp, Op.intDiv, hb]
  · exact h.elim
theorem gives_rem {t : TypeId} {x y : Operand} (hρ : Knows σ ρ) (h : sop P σ w.heap K Qp (.rem x y)) : Gives P (binSem .rem t x y (ρ x) (ρ y)) w K := by
  simp only [sop] at h
  split at h
  · rename_i k a k' b hx hy
    obtain ⟨rfl, hb, hk⟩ := h
    rw [hρ x _ hx, hρ y _ hy]
    refine Gives.bin (run_eqGuard_int _ _ _ _ _ _ _ _ _) ?_ (hk _ rfl)
    simp [binOp, Op.intDiv, hb]
  · exact h.elim

theorem gives_sh {op : BinOp} {t : TypeId} {x : Operand} {kt k2 : IntKind} {n : Int} (hop : op = .shl ∨ op = .shr) (h0 : 0 ≤ n) (hn : n.toNat ≤ kt.bits)
    (hρ : Knows σ ρ) (h : sop P σ w.heap K Qp (.sh kt (match op with | .shl => true | _ => false) n.toNat x)) :
    Gives P (binSem op t x (.const (.int k2 n)) (ρ x) (.int k2 n)) w K := by
  simp only [sop] at h
  split at h
  · rename_i k a hx
    obtain ⟨rfl, h⟩ := h
    rw [hρ x _ hx]
    have hlt : ¬ n < 0 := by omega
    have hmin : min n.toNat k.bits = n.toNat := Nat.min_eq_left hn
    refine Gives.bin (run_eqGuard_int _ _ _ _ _ _ _ _ _) ?_ (h _ rfl)
    rcases hop with rfl | rfl <;> simp [binOp, Op.shift, hlt, hmin]
  · exact h.elim

theorem bytes_ext {a b : ByteArray} (h : a.toList = b.toList) : a = b := by
  rw [ByteArray.toList_eq, ByteArray.toList_eq] at h
  obtain ⟨⟨x⟩⟩ := a
  obtain ⟨⟨y⟩⟩ := b
  simp at h
  rw [h]
theorem bytes_eq {a b : ByteArray} : (a.toList == b.toList) = decide (a = b) := by
  by_cases h : a = b
  · subst h; simp
  · rw [decide_eq_false h]; exact beq_eq_false_iff_ne.2 fun e => h (bytes_ext e)

theorem Gives.either {op : BinOp} {t : TypeId} {x y : Operand} {a b : Value} {p : Prop} (hg : (eqGuard op t x y a b).run P w = .ok () w)
    (ht : p → (binOp op t a b).run P w = .ok (.bool true) w) (hf : ¬ p → (binOp op t a b).run P w = .ok (.bool false) w) (hk : either p K w.heap) :
    Gives P (binSem op t x y a b) w K := by
  by_cases hp : p
  · exact Gives.bin hg (ht hp) (hk.1 hp)
  · exact Gives.bin hg (hf hp) (hk.2 hp)

theorem gives_cmp {op : BinOp} {t : TypeId} {x y : Operand} (hρ : Knows σ ρ) (h : sop P σ w.heap K Qp (.cmp op x y)) :
    Gives P (binSem op t x y (ρ x) (ρ y)) w K := by
  simp only [sop] at h
  split at h <;> first
    | exact h.elim
    | (rename_i k a k' b hx hy
       obtain ⟨rfl, hk⟩ := h
       rw [hρ x _ hx, hρ y _ hy]
       refine Gives.either (run_eqGuard_int _ _ _ _ _ _ _ _ _) ?_ ?_ hk <;> intro hp <;> simp [binOp, Op.intCmp] <;> first | exact hp | omega | (intro hc; exact hp hc) | skip)
    | (rename_i a b hx hy
       rw [hρ x _ hx, hρ y _ hy]
       refine Gives.either (run_eqGuard_str _ _ _ _ _ _ _) ?_ ?_ h <;> intro hp <;> simp [binOp, Op.stringOp, bytes_eq, sless] at hp ⊢ <;> first | exact hp | skip)

theorem gives_cmpb {op : BinOp} {t : TypeId} {x y : Operand} {neg : Bool} (hop : (op = .eql ∧ neg = false) ∨ (op = .neq ∧ neg = true)) (hkd : kdOf P t = some .bool) (hρ : Knows σ ρ)
    (h : sop P σ w.heap K Qp (.cmpb neg x y)) :
    Gives P (binSem op t x y (ρ x) (ρ y)) w K := by
  simp only [sop] at h
  split at h
  · rename_i a b hx hy
    have hu := kdOf_under hkd
    rw [hρ x _ hx, hρ y _ hy]
    by_cases hab : a = b
    · refine Gives.bin (run_eqGuard_bool _ _ _ _ _ _ _) ?_ (h.1 hab)
      subst hab
      rcases hop with ⟨rfl, rfl⟩ | ⟨rfl, rfl⟩ <;> simp [binOp, Op.equal, Op.maxDepth, run_equalIn_bool' _ _ _ _ _ hu]
    · refine Gives.bin (run_eqGuard_bool _ _ _ _ _ _ _) ?_ (h.2 hab)
      have hb : (a == b) = false := by simp [hab]
      rcases hop with ⟨rfl, rfl⟩ | ⟨rfl, rfl⟩ <;> simp [binOp, Op.equal, Op.maxDepth, run_equalIn_bool' _ _ _ _ _ hu, hb]
  · exact h.elim

theorem gives_cat {t : TypeId} {x y : Operand} (hρ : Knows σ ρ) (h : sop P σ w.heap K Qp (.cat x y)) : Gives P (binSem .add t x y (ρ x) (ρ y)) w K := by
  simp only [sop] at h
  split at h
  · rename_i a b hx hy
    rw [hρ x _ hx, hρ y _ hy]
    refine Gives.bin (run_eqGuard_str _ _ _ _ _ _ _) ?_ h.2
    have hlt : ¬ (((a.size + b.size : Nat) : Int) > IntKind.i64.max) := by
      have : IntKind.i64.max = 9223372036854775807 := rfl
      rw [this]; have := h.1; omega
    simp only [binOp, Op.stringOp]
    rw [if_neg hlt]; rfl
  · exact h.elim

theorem gives_un {op : UnOp} {x : Operand} (hρ : Knows σ ρ) (h : sop P σ w.heap K Qp (.un op x)) : Gives P (do pure (.value (← Op.unary op (ρ x)))) w K := by
  simp only [sop] at h
  split at h
  · rename_i t hx
    rw [hρ x _ hx]
    exact Gives.same (by simp [Op.unary]) h
  · rename_i k a hx
    rw [hρ x _ hx]
    exact Gives.same (by simp [Op.unary, Op.intArith]) (h _ rfl)
  · rename_i k a hx
    rw [hρ x _ hx]
    exact Gives.same (by simp [Op.unary, Op.intBits, bitw, ones]) (h _ rfl)
  · exact h.elim

theorem gives_fa {t : TypeId} {fs : Array Field} {f n : Nat} {fl : Field} {x : Operand} (hρ : Knows σ ρ) (hu : P.underlying t = some (.struct fs)) (hf : fs[f]? = some fl)
    (hs : szOf P fl.type = some (n + 1)) (h : sop P σ w.heap K Qp (.fa fl.offset x)) : Gives P (do pure (.value (← Instr.fieldAt t (ρ x) f))) w K := by
  simp only [sop] at h
  split at h
  · rename_i b o hx
    rw [hρ x _ hx]
    exact Gives.same (run_fieldAt hu hf hs b o w) h
  · exact h.elim

theorem gives_fl1 {t : TypeId} {fs : Array Field} {f : Nat} {fl : Field} {x : Operand} (hρ : Knows σ ρ) (hu : P.underlying t = some (.struct fs)) (hf : fs[f]? = some fl)
    (hg : aggOf P fl.type = some false) (h : sop P σ w.heap K Qp (.fl1 fl.offset x)) : Gives P (do pure (.value (← Instr.field t (ρ x) f))) w K := by
  simp only [sop] at h
  split at h
  · rename_i cs hx
    split at h
    · rename_i v hv
      rw [hρ x _ hx]
      refine Gives.same (v := v) ?_ h
      have hv' : cs[fl.offset]? = some v := by simpa using hv
      simp [Instr.field, run_underlying' hu, hf, part, run_isAgg' hg, asAgg, hv']
    · exact h.elim
  · exact h.elim

theorem gives_fln {t : TypeId} {fs : Array Field} {f n : Nat} {fl : Field} {x : Operand} (hρ : Knows σ ρ) (hu : P.underlying t = some (.struct fs)) (hf : fs[f]? = some fl)
    (hg : aggOf P fl.type = some true) (hs : szOf P fl.type = some n) (h : sop P σ w.heap K Qp (.fln fl.offset n x)) : Gives P (do pure (.value (← Instr.field t (ρ x) f))) w K := by
  simp only [sop] at h
  split at h
  · rename_i cs hx
    rw [hρ x _ hx]
    refine Gives.same ?_ h.2
    have he : cs.extract fl.offset (fl.offset + n) = ⟨(cs.toList.drop fl.offset).take n⟩ := by
      apply Array.ext'
      simp [List.extract_eq_take_drop]
    simp [Instr.field, run_underlying' hu, hf, part, run_isAgg' hg, asAgg, run_sizeOf' hs, he]
  · exact h.elim

theorem gives_ixa {t e : TypeId} {n size : Nat} {x i : Operand} (hρ : Knows σ ρ) (hu : P.underlying t = some (.array n e)) (hs : szOf P e = some size)
    (h : sop P σ w.heap K Qp (.ixa n size x i)) : Gives P (do pure (.value (← Instr.indexAt t (ρ x) (ρ i)))) w K := by
  simp only [sop] at h
  split at h
  · rename_i b o k j hx hi
    obtain ⟨h0, h1, hk⟩ := h
    rw [hρ x _ hx, hρ i _ hi]
    refine Gives.same ?_ hk
    simp [Instr.indexAt, asIntOf, run_underlying' hu, Instr.sureAddr, h0, h1, run_sizeOf' hs, addr_add]
  · exact h.elim

theorem gives_ixs {t e : TypeId} {size : Nat} {x i : Operand} (hρ : Knows σ ρ) (hu : P.underlying t = some (.slice e)) (hs : szOf P e = some size)
    (h : sop P σ w.heap K Qp (.ixs size x i)) : Gives P (do pure (.value (← Instr.indexAt t (ρ x) (ρ i)))) w K := by
  simp only [sop] at h
  split at h
  · rename_i b o n c k j hx hi
    obtain ⟨h0, h1, hk⟩ := h
    rw [hρ x _ hx, hρ i _ hi]
    refine Gives.same ?_ hk
    simp [Instr.indexAt, asIntOf, run_underlying' hu, h0, h1, run_sizeOf' hs, addr_add]
  · exact h.elim

theorem gives_ixc {t : TypeId} {x i : Operand} (hρ : Knows σ ρ) (hu : P.underlying t = some .string)
    (h : sop P σ w.heap K Qp (.ixc x i)) : Gives P (do pure (.value (← Instr.index t (ρ x) (ρ i)))) w K := by
  simp only [sop] at h
  split at h
  · rename_i s k j hx hi
    obtain ⟨c, h0, h1, hk⟩ := h
    rw [hρ x _ hx, hρ i _ hi]
    refine Gives.same ?_ hk
    simp [Instr.index, asIntOf, run_underlying' hu, h0, h1]
  · exact h.elim

theorem gives_len {t e : TypeId} {x : Operand} {args : Array TypeId} {ty : TypeId} (hρ : Knows σ ρ) (ha : args = #[t]) (hu : P.underlying t = some (.slice e))
    (h : sop P σ w.heap K Qp (.len x)) : Gives P (do pure (.value (← Builtin.len_ args ty #[ρ x]))) w K := by
  subst ha
  simp only [sop] at h
  split at h
  · rename_i a n c hx
    rw [hρ x _ hx]
    exact Gives.same (by simp [Builtin.len_, run_underlying' hu, goInt]) h
  · exact h.elim
theorem gives_lens {t : TypeId} {x : Operand} {args : Array TypeId} {ty : TypeId} (hρ : Knows σ ρ) (ha : args = #[t]) (hu : P.underlying t = some .string)
    (h : sop P σ w.heap K Qp (.lens x)) : Gives P (do pure (.value (← Builtin.len_ args ty #[ρ x]))) w K := by
  subst ha
  simp only [sop] at h
  split at h
  · rename_i s hx
    rw [hρ x _ hx]
    exact Gives.same (by simp [Builtin.len_, run_underlying' hu, goInt]) h
  · exact h.elim

theorem gives_capc {t e : TypeId} {x : Operand} {args : Array TypeId} {ty : TypeId} (hρ : Knows σ ρ) (ha : args = #[t]) (hu : P.underlying t = some (.slice e))
    (h : sop P σ w.heap K Qp (.capc x)) : Gives P (do pure (.value (← Builtin.cap_ args ty #[ρ x]))) w K := by
  subst ha
  simp only [sop] at h
  split at h
  · rename_i a n c hx
    rw [hρ x _ hx]
    exact Gives.same (by simp [Builtin.cap_, run_underlying' hu, goInt]) h
  · exact h.elim

theorem gives_ext {x : Operand} {i : Nat} (hρ : Knows σ ρ) (h : sop P σ w.heap K Qp (.ext x i)) : Gives P (do pure (.value (← Instr.extract (ρ x) i))) w K := by
  simp only [sop] at h
  split at h
  · rename_i vs hx
    split at h
    · rename_i v hv
      rw [hρ x _ hx]
      have hv' : vs[i]? = some v := by simpa using hv
      exact Gives.same (by simp [Instr.extract, hv']) h
    · exact h.elim
  · exact h.elim

theorem gives_fn {f : Nat} {a c : Array Operand} (hρ : Knows σ ρ) (h : sop P σ w.heap K Qp (.fn f a.toList c.toList)) :
    Gives P (do pure (.value (← Instr.makeFunc (.func f) (a.map ρ) (c.map ρ)))) w K := by
  simp only [sop] at h
  split at h
  · rename_i va vc ha hc
    have e1 : a.map ρ = ⟨va⟩ := by apply Array.ext'; simp [hρ.list _ _ ha]
    have e2 : c.map ρ = ⟨vc⟩ := by apply Array.ext'; simp [hρ.list _ _ hc]
    rw [e1, e2]
    exact Gives.same (by simp [Instr.makeFunc]) h
  · exact h.elim

theorem gives_cvt {s d : TypeId} {ks k : IntKind} {x : Operand} (hρ : Knows σ ρ) (hs : P.underlying s = some (.int ks)) (hd : P.underlying d = some (.int k))
    (h : sop P σ w.heap K Qp (.cvt k x)) : Gives P (do pure (.value (← convert s d (ρ x)))) w K := by
  simp only [sop] at h
  split at h
  · rename_i k' a hx
    rw [hρ x _ hx]
    exact Gives.same (by simp [convert, run_underlying' hs, run_underlying' hd, Conv.intToInt]) (h _ rfl)
  · exact h.elim

theorem gives_cvs {s d : TypeId} {x : Operand} (hρ : Knows σ ρ) (hs : P.underlying s = some .string) (hd : P.underlying d = some .string)
    (h : sop P σ w.heap K Qp (.cvs x)) : Gives P (do pure (.value (← convert s d (ρ x)))) w K := by
  simp only [sop] at h
  split at h
  · rename_i s hx
    rw [hρ x _ hx]
    exact Gives.same (by simp [convert, run_underlying' hs, run_underlying' hd]) h
  · exact h.elim

theorem gives_bstr {s d e : TypeId} {x : Operand} (hρ : Knows σ ρ) (hs : P.underlying s = some (.slice e)) (he : P.underlying e = some (.int .u8)) (hd : P.underlying d = some .string)
    (h : sop P σ w.heap K Qp (.bstr x)) : Gives P (do pure (.value (← convert s d (ρ x)))) w K := by
  simp only [sop] at h
  split at h
  · rename_i a n c hx
    obtain ⟨bs, hn, hsrc, hk⟩ := h
    rw [hρ x _ hx]
    cases a with
    | none =>
      have h0 : n = 0 := hsrc
      have : bs = [] := by rw [h0] at hn; simpa using hn
      subst this
      refine Gives.same (v := .string ⟨⟨[]⟩⟩) ?_ hk
      exact (run_convert_bytes_nil w s e hs he n c d hd).trans rfl
    | some a =>
      obtain ⟨b, o, sp⟩ := a
      cases sp with
      | some q => exact hsrc.elim
      | none =>
        have hsrc : Cells w.heap b o (bs.map fun b => .int .u8 b.toNat) := hsrc
        refine Gives.same (v := .string ⟨⟨bs⟩⟩) ?_ hk
        have hcell : ∀ i, i < n → w.cell? ⟨b, o + i, none⟩ = some (.int .u8 ((bs.map fun b => (b.toNat : Int)).getD i 0)) := by
          intro i hi
          have hib : i < bs.length := by omega
          rw [cell_eq]
          refine hsrc i _ ?_
          simp [List.getD, hib]
        have e1 : strOfNums (bs.map fun b => (b.toNat : Int)) = ⟨⟨bs⟩⟩ := by
          unfold strOfNums
          have : (bs.map fun b => (b.toNat : Int)).map (fun n => UInt8.ofNat n.toNat) = bs := by
            rw [List.map_map]
            conv => rhs; rw [← List.map_id bs]
            refine List.map_congr_left fun x _ => ?_
            simp
          rw [this]
        rw [← e1]
        exact run_convert_bytes_arg w s e hs he b o n c (bs.map fun b => (b.toNat : Int)) (by simp [hn]) hcell d hd
  · exact h.elim

theorem gives_mn {x y : Operand} {args : Array TypeId} {ty : TypeId} (hρ : Knows σ ρ) (h : sop P σ w.heap K Qp (.mn x y)) :
    Gives P (do pure (.value (← Builtin.min_ args ty #[ρ x, ρ y]))) w K := by
  simp only [sop] at h
  split at h
  · rename_i k a k' b hx hy
    obtain ⟨rfl, hk⟩ := h
    rw [hρ x _ hx, hρ y _ hy]
    refine Gives.same (v := .int k (min a b)) ?_ hk
    have : (if b < a then b else a) = min a b := by simp only [Int.min_def]; split <;> split <;> omega
    simp [Builtin.min_, Builtin.min2, this]
  · exact h.elim
theorem gives_mx {x y : Operand} {args : Array TypeId} {ty : TypeId} (hρ : Knows σ ρ) (h : sop P σ w.heap K Qp (.mx x y)) :
    Gives P (do pure (.value (← Builtin.max_ args ty #[ρ x, ρ y]))) w K := by
  simp only [sop] at h
  split at h
  · rename_i k a k' b hx hy
    obtain ⟨rfl, hk⟩ := h
    rw [hρ x _ hx, hρ y _ hy]
    refine Gives.same (v := .int k (max a b)) ?_ hk
    have : (if b > a then b else a) = max a b := by simp only [Int.max_def]; split <;> split <;> omega
    simp [Builtin.max_, Builtin.max2, this]
  · exact h.elim

theorem gives_mki {t : TypeId} {d : TypeDesc} {x : Operand} (hρ : Knows σ ρ) (hu : P.underlying t = some d) (hd : ∀ ms, d ≠ .interface ms) (h : sop P σ w.heap K Qp (.mki t x)) :
    Gives P (do pure (.value (← Instr.makeInterface t (ρ x)))) w K := by
  simp only [sop] at h
  split at h
  · rename_i v hx
    rw [hρ x _ hx]
    refine Gives.same (v := .iface t v) ?_ h
    cases d <;> simp [Instr.makeInterface, run_underlying' hu] <;> exact absurd rfl (hd _)
  · exact h.elim

end Go.Sx
