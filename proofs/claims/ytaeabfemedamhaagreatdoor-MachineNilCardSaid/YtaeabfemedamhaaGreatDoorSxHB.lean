/-
  The simplified operations are sound: arrays by index, cuts of arrays, shifts by a number, types asked, two interface values, panics, bytes, ranges over maps.
-/
import Derived.Test.YtaeabfemedamhaaGreatDoorSxH
import Derived.Lib.Builder
import Derived.Lib.UnsafeStr
import Derived.Lib.ConvBytes
namespace Go.Sx
open Go

variable {P : Program} {σ : Env} {ρ : Operand → Value} {w : World} {K : Value → Heap → Prop} {Qp : List PanicEntry → Heap → Prop}

theorem gives_ixv {t e : TypeId} {n size : Nat} {x i : Operand} (hρ : Knows σ ρ) (hu : P.underlying t = some (.array n e)) (hg : aggOf P e = some false) (hs : szOf P e = some size)
    (h : sop P σ w.heap K Qp (.ixv n size x i)) : Gives P (do pure (.value (← Instr.index t (ρ x) (ρ i)))) w K := by
  simp only [sop] at h
  split at h
  · rename_i cs k j hx hi
    obtain ⟨v, h0, h1, hv, hk⟩ := h
    rw [hρ x _ hx, hρ i _ hi]
    refine Gives.same (v := v) ?_ hk
    have hv' : cs[j.toNat * size]? = some v := by simpa using hv
    simp [Instr.index, asIntOf, run_underlying' hu, h0, h1, run_sizeOf' hs, part, run_isAgg' hg, hv']
  · exact h.elim

theorem gives_slp {t e : TypeId} {n size : Nat} {x : Operand} {lo hi : Option Operand} (hρ : Knows σ ρ) (hu : P.underlying t = some (.array n e)) (hs : szOf P e = some size)
    (h : sop P σ w.heap K Qp (.slp n size x lo hi)) : Gives P (do pure (.value (← Instr.sliceAt t (ρ x) (lo.map ρ) (hi.map ρ) none))) w K := by
  simp only [sop] at h
  split at h
  · rename_i b o hx
    split at h
    · rename_i l m hl hm
      obtain ⟨h0, h1, h2, h⟩ := h
      rw [hρ x _ hx]
      have hb := run_sliceBounds (P := P) (isS := false) hρ hl hm h0 h1 h2 w
      have hsub1 : m.toNat - l.toNat = (m - l).toNat := by omega
      have hsub2 : n - l.toNat = ((n : Int) - l).toNat := by omega
      refine Gives.same (v := .slice (some ⟨b, if n = l.toNat then o else o + l.toNat * size, none⟩) (m - l).toNat (n - l).toNat) ?_ (h _ (fun hlt => if_neg (by omega)) (fun he => if_pos (by omega)))
      simp only [Instr.sliceAt, Sem.run_bind, run_underlying' hu, Result.andThen_ok, Instr.sureAddr, hb, run_sizeOf' hs, Sem.run_pure, hsub1, hsub2, addr_add]
      split <;> rfl
    · exact h.elim
  · exact h.elim

theorem gives_shv {op : BinOp} {t : TypeId} {x y : Operand} {kt : IntKind} (hop : op = .shl ∨ op = .shr)
    (hρ : Knows σ ρ) (h : sop P σ w.heap K Qp (.shv kt (match op with | .shl => true | _ => false) x y)) :
    Gives P (binSem op t x y (ρ x) (ρ y)) w K := by
  simp only [sop] at h
  split at h
  · rename_i k a k2 n hx hy
    obtain ⟨rfl, h0, h⟩ := h
    rw [hρ x _ hx, hρ y _ hy]
    have hlt : ¬ n < 0 := by omega
    refine Gives.bin (run_eqGuard_int _ _ _ _ _ _ _ _ _) ?_ (h _ rfl)
    rcases hop with rfl | rfl <;> simp [binOp, Op.shift, hlt]
  · exact h.elim

theorem gives_tas {t xt : TypeId} {d : TypeDesc} {z : Value} {ok : Bool} {x : Operand} (hρ : Knows σ ρ) (hu : P.underlying t = some d) (hd : ∀ ms, d ≠ .interface ms) (hz : zeroOf P t = some z)
    (h : sop P σ w.heap K Qp (.tas t z ok x)) : Gives P (do pure (.value (← Instr.typeAssert (ρ x) xt t ok))) w K := by
  simp only [sop] at h
  split at h
  · rename_i hx
    obtain ⟨rfl, hk⟩ := h
    rw [hρ x _ hx]
    refine Gives.same ?_ hk
    cases d <;> first | exact absurd rfl (hd _) | simp [Instr.typeAssert, run_underlying' hu, run_zeroValue' hz]
  · rename_i u v hx
    rw [hρ x _ hx]
    by_cases hut : u = t
    · refine Gives.same ?_ (h.1 hut)
      cases ok <;> cases d <;> first | exact absurd rfl (hd _) | simp [Instr.typeAssert, run_underlying' hu, hut]
    · obtain ⟨rfl, hk⟩ := h.2 hut
      refine Gives.same ?_ hk
      cases d <;> first | exact absurd rfl (hd _) | simp [Instr.typeAssert, run_underlying' hu, hut, run_zeroValue' hz]
  · exact h.elim

theorem kdE_spec {t : TypeId} {kd : Kd} (h : kdE P t = some kd) : (∃ i, P.info? t = some i ∧ i.comparable = true) ∧ kdOf P t = some kd := by
  unfold kdE at h
  split at h
  · rename_i i hi
    split at h <;> simp at h <;> subst h <;> rename_i hc hu
    · exact ⟨⟨i, hi, hc⟩, by simp [kdOf, hu]⟩
    · exact ⟨⟨i, hi, hc⟩, by simp [kdOf, hu]⟩
    · exact ⟨⟨i, hi, hc⟩, by simp [kdOf, hu]⟩
  · simp at h

theorem run_eqGuard_iface (op : BinOp) (t : TypeId) (x y : Operand) {a b : Value} (h : a ≠ .nilIface ∨ b ≠ .nilIface) (ha : ∀ c, a ≠ .agg c) (w : World) : (eqGuard op t x y a b).run P w = .ok () w := by
  cases op <;> cases a <;> cases b <;> first | (simp [eqGuard]; done) | (exact absurd rfl (ha _)) | (simp at h)

theorem run_binOp_iface {op : BinOp} {t : TypeId} {a b : Value} {r neg : Bool} (hop : (op = .eql ∧ neg = false) ∨ (op = .neq ∧ neg = true))
    (ha : a = .nilIface ∨ ∃ t v, a = .iface t v) (hr : (Op.equal t a b).run P w = .ok r w) :
    (binOp op t a b).run P w = .ok (.bool (bif r then !neg else neg)) w := by
  rcases ha with rfl | ⟨t', v, rfl⟩ <;> rcases hop with ⟨rfl, rfl⟩ | ⟨rfl, rfl⟩ <;> simp [binOp, hr] <;> cases r <;> rfl

theorem gives_eqi {op : BinOp} {t : TypeId} {ms : Array (String × TypeId)} {x y : Operand} {neg : Bool} (hop : (op = .eql ∧ neg = false) ∨ (op = .neq ∧ neg = true)) (hρ : Knows σ ρ)
    (hu : P.underlying t = some (.interface ms)) (h : sop P σ w.heap K Qp (.eqi neg x y)) : Gives P (binSem op t x y (ρ x) (ρ y)) w K := by
  simp only [sop] at h
  split at h
  · rename_i u v hx hy
    rw [hρ x _ hx, hρ y _ hy]
    exact Gives.bin (run_eqGuard_iface _ _ _ _ (.inr (by simp)) (by simp) _) (run_binOp_iface (r := false) hop (.inl rfl) (eqv_iface hu v w).2.1) h
  · rename_i u v hx hy
    rw [hρ x _ hx, hρ y _ hy]
    exact Gives.bin (run_eqGuard_iface _ _ _ _ (.inl (by simp)) (by simp) _) (run_binOp_iface (r := false) hop (.inr ⟨_, _, rfl⟩) (eqv_iface hu v w).1) h
  · rename_i u v u' v' hx hy
    rw [hρ x _ hx, hρ y _ hy]
    by_cases hut : u = u'
    · obtain ⟨kd, hkd, hf1, hf2, h1, h2⟩ := h.2 hut
      subst hut
      obtain ⟨⟨i, hi, hc⟩, hk⟩ := kdE_spec hkd
      obtain ⟨r, hr, hr'⟩ := run_equalIn_kd hk hf1 hf2 9998 w
      have he : (Op.equal t (.iface u v) (.iface u v')).run P w = .ok r w := by
        unfold Op.equal Op.maxDepth
        unfold Op.equalIn
        simp [run_underlying' hu, run_typeInfo' hi, hc, hr]
      refine Gives.bin (run_eqGuard_iface _ _ _ _ (.inl (by simp)) (by simp) _) (run_binOp_iface hop (.inr ⟨_, _, rfl⟩) he) ?_
      by_cases hv : v = v'
      · rw [hr'.2 hv]; exact h1 hv
      · have : r = false := by cases r with
          | false => rfl
          | true => exact absurd (hr'.1 rfl) hv
        rw [this]; exact h2 hv
    · have he : (Op.equal t (.iface u v) (.iface u' v')).run P w = .ok false w := by
        unfold Op.equal Op.maxDepth
        unfold Op.equalIn
        simp [run_underlying' hu, hut]
      exact Gives.bin (run_eqGuard_iface _ _ _ _ (.inl (by simp)) (by simp) _) (run_binOp_iface (r := false) hop (.inr ⟨_, _, rfl⟩) he) (h.1 hut)
  · exact h.elim

theorem grown_ge (w : World) (n old : Nat) (e : TypeId) : n ≤ grownCap w n old e := by
  unfold grownCap; simp [Question.cut]

theorem gives_byts {s d e : TypeId} {x : Operand} (hρ : Knows σ ρ) (hs : P.underlying s = some .string) (hd : P.underlying d = some (.slice e)) (he : P.underlying e = some (.int .u8))
    (h : sop P σ w.heap K Qp (.byts x)) : Gives P (do pure (.value (← convert s d (ρ x)))) w K := by
  simp only [sop] at h
  split at h
  · rename_i b hx
    rw [hρ x _ hx]
    have hr := Lib.run_convert_string_bytes w s d e b hs hd he
    have hcells : Lib.bytesCells w e b = ⟨byteCells b ++ List.replicate (grownCap w b.size 0 e - b.size) (.int .u8 0)⟩ := by
      apply Array.ext'; simp [Lib.bytesCells, byteCells]
    refine Gives.val hr ⟨rfl, rfl, rfl⟩ (h _ _ _ (grown_ge w b.size 0 e) ⟨rfl, ?_, Lib.bytesWorld_size w e b, fun k hk => Lib.bytesWorld_at_old w e b k hk⟩)
    refine ⟨e, _, ?_, .inr rfl⟩
    rw [Lib.bytesWorld_at_new, hcells]
    rfl
  · exact h.elim

/-! ### Bytes -/
theorem run_storeW (b : Nat) (e : TypeId) (k : Nat × Nat) : ∀ (vs : List Value) (i o : Nat) (l : List Value) (w : World), w.heap[b]? = some (.cells ⟨l⟩ e k) → (k = (0, 0) ∨ k = (l.length, l.length + 1)) → o + i + vs.length ≤ l.length → (∀ v ∈ vs, v.oneCell' = true) →
    ∃ w', (storeCells ⟨b, o, none⟩ vs i).run P w = .ok () w' ∧ SameB w w' ∧ w'.heap = w.heap.setIfInBounds b (.cells ⟨splice l (o + i) vs⟩ e k)
  | [], i, o, l, w, hb, _, _, _ => by
    refine ⟨w, by simp [storeCells], SameB.refl w, ?_⟩
    rw [splice_nil]
    apply Array.ext_getElem?
    intro k
    rw [Array.getElem?_setIfInBounds]
    split
    · rename_i h; subst h
      have hlt := (Array.getElem?_eq_some_iff.1 hb).1
      rw [if_pos hlt, hb]
    · rfl
  | v :: vs, i, o, l, w, hb, hk, hl, h1 => by
    simp only [List.length_cons] at hl
    have hc : w.cell? ⟨b, o + i, none⟩ = some l[o + i] := by
      rw [cell_eq]; unfold cell; rw [hb]; simp
    have hf : w.frozen? ⟨b, o + i, none⟩ = false := by
      unfold World.frozen?; rw [hb]
      rcases hk with rfl | rfl
      · simp
      · simp; omega
    have hlt := (Array.getElem?_eq_some_iff.1 hb).1
    have hset : (w.setCell ⟨b, o + i, none⟩ v).heap = w.heap.setIfInBounds b (.cells ⟨l.set (o + i) v⟩ e k) := by
      unfold World.setCell
      apply Array.ext_getElem?
      intro k
      simp only [Array.getElem?_modify, Array.getElem?_setIfInBounds]
      by_cases hk : b = k
      · subst hk
        have := (Array.getElem?_eq_some_iff.1 hb).2
        simp [hlt, this]
      · simp [hk]
    have hb' : (w.setCell ⟨b, o + i, none⟩ v).heap[b]? = some (.cells ⟨l.set (o + i) v⟩ e k) := by
      rw [hset]; simp [hlt]
    obtain ⟨w', hr, hsame, hheap⟩ := run_storeW b e k vs (i + 1) o (l.set (o + i) v) (w.setCell ⟨b, o + i, none⟩ v) hb' (by simpa using hk) (by simp; omega) (fun x hx => h1 x (by simp [hx]))
    refine ⟨w', ?_, ⟨hsame.1, hsame.2.1, hsame.2.2⟩, ?_⟩
    · have hv := h1 v (by simp)
      simp only [storeCells, Sem.run_bind, addr_add, run_store P w _ v .plain hv, hc, hf, Bool.false_eq_true, if_false, Result.andThen_ok]
      exact hr
    · rw [hheap, hset, splice_cons l (o + i) v vs (by omega)]
      apply Array.ext_getElem?
      intro k
      simp only [Array.getElem?_setIfInBounds, Array.size_setIfInBounds]
      split <;> simp_all [Nat.add_assoc]

theorem putW_of_set {h : Heap} {b o : Nat} {l vs : List Value} {e : TypeId} {k k0 : Nat × Nat} {c : Array Value} (hb : h[b]? = some (.cells c e k0)) (hk : k = (0, 0) ∨ k = (l.length, l.length + 1)) :
    PutW h (h.setIfInBounds b (.cells ⟨splice l o vs⟩ e k)) b (splice l o vs) := by
  have hlt := (Array.getElem?_eq_some_iff.1 hb).1
  refine ⟨⟨e, k, by simp [hlt], by rw [splice_size]; exact hk⟩, by simp, fun k hk => ?_, fun t ⟨c', k', ht⟩ => ?_⟩
  · rw [Array.getElem?_setIfInBounds, if_neg (fun h => hk h.symm)]
  · rw [hb] at ht
    simp at ht
    obtain ⟨_, rfl, _⟩ := ht
    exact ⟨_, _, by simp [hlt]; exact ⟨rfl, rfl⟩⟩

theorem gives_stb {t : TypeId} {x v : Operand} (hρ : Knows σ ρ) (hs : szOf P t = some 1) (h : sop P σ w.heap K Qp (.stb x v)) :
    Gives P (do Instr.storeAt t (ρ x) (ρ v); pure .skip) w K := by
  simp only [sop] at h
  split at h
  · rename_i b o v' hx hv
    obtain ⟨l, ⟨e, k, hb, hkk⟩, hfit, hn, h1, hk⟩ := h
    obtain ⟨w', hr, hsame, hheap⟩ := run_storeW (P := P) b e k v'.cells.toList 0 o l w hb hkk (by rw [hn]; omega) h1
    rw [Nat.add_zero] at hheap
    rw [hρ x _ hx, hρ v _ hv]
    refine ⟨undef, w', .inr ⟨?_, rfl⟩, hsame, hk _ ?_⟩
    · have hne : ¬ (v'.cells.size ≠ 1) := by simp at hn; simp [hn]
      have hr' : (storeCells ⟨b, o, none⟩ v'.cells.toList).run P w = .ok () w' := hr
      simp only [Instr.storeAt, Instr.sureAddr, storeVar, Sem.run_bind, Sem.run_pure, Result.andThen_ok, run_sizeOf' hs]
      rw [if_neg hne]
      simp [hr']
    · rw [hheap]; exact putW_of_set hb hkk
  · exact h.elim

theorem run_wrB {a : Option Addr} {ys : List Value} {KK : Heap → Prop} (hw : wrB w.heap KK a ys) : ∃ w', (match a with | some a => storeCells a ys | none => pure ()).run P w = .ok () w' ∧ SameB w w' ∧ KK w'.heap := by
  by_cases hy : ys = []
  · subst hy
    refine ⟨w, ?_, SameB.refl w, hw.1 rfl⟩
    cases a <;> rfl
  · have h := hw.2 hy
    split at h
    · rename_i b o
      obtain ⟨l, ⟨e, k, hb, hkk⟩, hfit, h1, hk⟩ := h
      obtain ⟨w', hr, hsame, hheap⟩ := run_storeW (P := P) b e k ys 0 o l w hb hkk (by omega) h1
      rw [Nat.add_zero] at hheap
      refine ⟨w', hr, hsame, hk _ ?_⟩
      rw [hheap]; exact putW_of_set hb hkk
    · exact h.elim

theorem run_firstB {h : Heap} {v : Value} {n : Nat} {ys : List Value} (hs : SrcB h v n ys) (w : World) (hw : w.heap = h) : (Builtin.firstCells 1 n v).run P w = .ok ⟨ys⟩ w := by
  unfold SrcB at hs
  split at hs
  · rename_i a m c
    exact run_firstCells (size := 1) hs.2 (by rw [hs.1]; omega) w hw
  · rename_i s
    obtain ⟨rfl, hn⟩ := hs
    have e : ((s.extract 0 n).data.map fun b => Value.int .u8 b.toNat) = ⟨(byteCells s).take n⟩ := by
      apply Array.ext'
      simp [byteCells, ByteArray.data_extract]
    simp only [Builtin.firstCells, Sem.run_pure, e]
  · exact hs.elim

theorem run_lenB {v : Value} {m : Nat} (hm : lenB v = some m) (w : World) : (Builtin.lenOf v).run P w = .ok m w := by
  unfold lenB at hm
  split at hm <;> simp at hm <;> subst hm <;> simp [Builtin.lenOf]

theorem isByte_spec {e : TypeId} (h : isByte P e = true) : P.underlying e = some (.int .u8) ∧ ∃ i, P.info? e = some i ∧ i.size = 1 ∧ i.bytes = 1 ∧ i.zero = some (.int .u8 0) := by
  unfold isByte at h
  split at h
  · rename_i i hi
    simp only [Bool.and_eq_true] at h
    obtain ⟨⟨⟨h1, h2⟩, h3⟩, h4⟩ := h
    refine ⟨?_, i, hi, Nat.eq_of_beq_eq_true h2, Nat.eq_of_beq_eq_true h3, ?_⟩
    · split at h1
      · assumption
      · simp at h1
    · split at h4
      · assumption
      · simp at h4
  · simp at h

theorem gives_cpyb {t u e : TypeId} {d : TypeDesc} {x y : Operand} {ty : TypeId} (hρ : Knows σ ρ) (hu : P.underlying t = some (.slice e)) (he : isByte P e = true) (_ : P.underlying u = some d)
    (h : sop P σ w.heap K Qp (.cpyb x y)) : Gives P (do pure (.value (← Builtin.copy_ #[t, u] ty #[ρ x, ρ y]))) w K := by
  obtain ⟨hue, i, hi, hsz, hby, hz⟩ := isByte_spec he
  have hs : szOf P e = some 1 := by simp [szOf, hi, hsz]
  simp only [sop] at h
  split at h
  · rename_i a n c v hx hy
    split at h
    · rename_i m hm
      obtain ⟨ys, hyl, hys, hw⟩ := h
      rw [hρ x _ hx, hρ y _ hy]
      have fy := run_firstB (P := P) hys w rfl
      obtain ⟨w', hr, hb, hk⟩ := run_wrB (P := P) hw
      refine Gives.val (v := .int .i64 (min m n : Nat)) (w' := w') ?_ hb hk
      have hmin : Nat.min m n = min m n := rfl
      cases a with
      | none =>
        have hr' : (pure () : Sem Unit).run P w = .ok () w' := hr
        have e : w' = w := by simpa using hr'.symm
        subst e
        simp [Builtin.copy_, run_underlying' hu, run_lenB hm, run_sizeOf' hs, hmin, fy, goInt]
      | some a =>
        have hr' : (storeCells a ys).run P w = .ok () w' := hr
        simp [Builtin.copy_, run_underlying' hu, run_lenB hm, run_sizeOf' hs, hmin, fy, goInt, hr']
    · exact h.elim
  · exact h.elim

theorem gives_appb {t u e : TypeId} {d : TypeDesc} {x y : Operand} {ty : TypeId} (hρ : Knows σ ρ) (hu : P.underlying t = some (.slice e)) (he : isByte P e = true) (hu2 : P.underlying u = some d) (hd : d = .string ∨ ∃ e2, d = .slice e2)
    (h : sop P σ w.heap K Qp (.appb e x y)) : Gives P (do pure (.value (← Builtin.append_ #[t, u] ty #[ρ x, ρ y]))) w K := by
  obtain ⟨hue, i, hi, hisz, hby, hiz⟩ := isByte_spec he
  have hsz : szOf P e = some 1 := by simp [szOf, hi, hisz]
  have hzv : zeroOf P e = some (.int .u8 0) := by simp [zeroOf, hi, hiz]
  simp only [sop] at h
  split at h
  · rename_i a n c v hx hy
    split at h
    · rename_i m hm
      obtain ⟨xs, ys, hxl, hyl, hxs, hys, h1, hin, hout⟩ := h
      rw [hρ x _ hx, hρ y _ hy]
      have fx : ∀ w' : World, w'.heap = w.heap → (Builtin.firstCells 1 n (.slice a n c)).run P w' = .ok ⟨xs⟩ w' := fun w' hw' => run_firstCells (size := 1) hxs (by omega) w' hw'
      have fy : ∀ w' : World, w'.heap = w.heap → (Builtin.firstCells 1 m v).run P w' = .ok ⟨ys⟩ w' := fun w' hw' => run_firstB hys w' hw'
      have hlen := run_lenB (P := P) hm w
      by_cases hroom : n + m ≤ c
      · have h := hin hroom
        cases a with
        | none =>
          refine Gives.same (v := .slice none (n + m) c) ?_ h
          rcases hd with rfl | ⟨e2, rfl⟩ <;> simp only [List.getElem?_toArray, List.getElem?_cons_zero, List.getElem?_cons_succ, Sem.run_bind, Result.andThen_ok, Sem.run_pure, Bool.false_eq_true, if_false, if_true, Bool.not_false, Builtin.append_, run_underlying' hu, run_underlying' hu2, run_sizeOf' hsz, hlen, hroom, fy w rfl]
        | some a =>
          obtain ⟨b, o, sp⟩ := a
          cases sp with
          | some s => exact h.elim
          | none =>
            obtain ⟨l, ⟨eb, kk, hb, hkk⟩, hfit, hk⟩ := h
            obtain ⟨w', hr, hsame, hheap⟩ := run_storeW (P := P) b eb kk ys 0 (o + n) l w hb hkk (by omega) h1
            rw [Nat.add_zero] at hheap
            refine Gives.val (v := .slice (some ⟨b, o, none⟩) (n + m) c) (w' := w') ?_ hsame (hk _ ?_)
            · have hr' : (storeCells ⟨b, o + n, none⟩ ys).run P w = .ok () w' := hr
              rcases hd with rfl | ⟨e2, rfl⟩ <;> simp only [List.getElem?_toArray, List.getElem?_cons_zero, List.getElem?_cons_succ, Sem.run_bind, Result.andThen_ok, Sem.run_pure, Bool.false_eq_true, if_false, if_true, Bool.not_false, Nat.mul_one, Builtin.append_, run_underlying' hu, run_underlying' hu2, run_sizeOf' hsz, hlen, hroom, fy w rfl, addr_add, hr']
            · rw [hheap]; exact putW_of_set hb hkk
      · obtain ⟨hbound, hk⟩ := hout (by omega)
        have hneed : n + m < 9223372036854775808 := by omega
        have hg1' : ¬ (((n + m : Nat) : Int) > IntKind.i64.max ∧ i.bytes = 0) := fun h => by omega
        have hg2 : ¬ (Builtin.nextslicecap (n + m) c * i.bytes > 2 ^ 48) := by
          have h2 := nextslicecap_le (need := n + m) (old := c) (by omega)
          rw [hby]; omega
        obtain ⟨cap, hcap⟩ : ∃ cap, cap = (Question.appendCap (n + m) c e).cut (w.tape w.drawn (.appendCap (n + m) c e)) := ⟨_, rfl⟩
        have hcle : n + m ≤ cap := by rw [hcap]; simp [Question.cut]
        obtain ⟨w1, hw1⟩ : ∃ w1 : World, w1 = { w with drawn := w.drawn + 1 } := ⟨_, rfl⟩
        have hch : (choose (.appendCap (n + m) c e)).run P w = .ok cap w1 := by
          rw [run_choose, hcap, hw1]; simp [Question.forced]
        have hzc : Builtin.zeroCells (Value.int .u8 0).cells (cap - (n + m)) = ⟨List.replicate (cap - (n + m)) (.int .u8 0)⟩ := by
          have : Builtin.zeroCells (Value.int .u8 0).cells (cap - (n + m)) = ⟨(List.replicate (cap - (n + m)) (Value.int .u8 0).cells.toList).flatten⟩ := range_zeros _ _
          rw [this]
          have e2 : (Value.int .u8 0).cells.toList = [.int .u8 0] := rfl
          rw [e2, List.flatten_replicate_singleton]
        have hheap1 : w1.heap = w.heap := by rw [hw1]
        have hnr : ¬ n + m ≤ c := hroom
        refine Gives.val (v := .slice (some ⟨w.heap.size, 0, none⟩) (n + m) cap)
          (w' := { w1 with heap := w1.heap.push (.cells ⟨xs ++ ys ++ List.replicate (cap - (n + m)) (.int .u8 0)⟩ e) }) ?_ ⟨by rw [hw1], by rw [hw1], by rw [hw1]⟩ (hk cap _ _ hcle ?_ ?_)
        · have harr : (⟨xs⟩ : Array Value) ++ ⟨ys⟩ ++ ⟨List.replicate (cap - (n + m)) (.int .u8 0)⟩ = ⟨xs ++ ys ++ List.replicate (cap - (n + m)) (.int .u8 0)⟩ := by
            apply Array.ext'; simp
          rcases hd with rfl | ⟨e2, rfl⟩ <;>
              (simp only [Builtin.append_, List.getElem?_toArray, List.getElem?_cons_zero, List.getElem?_cons_succ, Sem.run_bind, run_underlying' hu, run_underlying' hu2, Result.andThen_ok, run_sizeOf' hsz,
                Sem.run_pure, hlen, run_typeInfo' hi, Bool.false_eq_true, false_or, if_false, if_neg hnr, if_neg hg1', if_neg hg2, hch, run_askRoom, fx w1 hheap1, fy w1 hheap1, run_zeroValue' hzv, hzc, harr, newRow, run_newObj, Bool.not_false, if_true]
               rw [hheap1])
        · show Grow w.heap (w1.heap.push _) w.heap.size _
          rw [hheap1]; exact grow_of_push w.heap _ e
        · show TyB (w1.heap.push _) w.heap.size e
          rw [hheap1]; exact ⟨_, _, Array.getElem?_push_size⟩
    · exact h.elim
  · exact h.elim

/-! ### Ranges over maps -/
theorem gives_rng {t k e : TypeId} {x : Operand} (hρ : Knows σ ρ) (hu : P.underlying t = some (.map k e)) (h : sop P σ w.heap K Qp (.rng x)) :
    Gives P (do pure (.value (← Instr.range t (ρ x)))) w K := by
  simp only [sop] at h
  split at h
  · rename_i hx
    rw [hρ x _ hx]
    refine Gives.val (v := .pointer (some ⟨w.heap.size, 0, none⟩)) (w' := { w with heap := w.heap.push (.mapIter none 0 #[] 0) }) ?_ ⟨rfl, rfl, rfl⟩ (h _ _ (growO_of_push w.heap _))
    simp [Instr.range, run_underlying' hu]
  · rename_i r hx
    obtain ⟨es, c, hm, hk⟩ := h
    rw [hρ x _ hx]
    refine Gives.val (v := .pointer (some ⟨w.heap.size, 0, none⟩)) (w' := { w with heap := w.heap.push (.mapIter (some r) c #[] c) }) ?_ ⟨rfl, rfl, rfl⟩ (hk _ _ (growO_of_push w.heap _))
    simp [Instr.range, run_underlying' hu, run_getMap hm w rfl]
  · exact h.elim

def isIter : Obj → Bool
  | .mapIter .. => true
  | _ => false
theorem run_getAny {h : Heap} {r : Nat} {x : Obj} (hm : h[r]? = some x) (hi : isIter x = true) (w : World) (hw : w.heap = h) : (getObj r).run P w = .ok x w := by
  cases x <;> simp [isIter] at hi <;> simp [getObj, Sem.run, hw, hm]
theorem run_setAny {r : Nat} {x y : Obj} (hm : w.heap[r]? = some x) (hi : isIter x = true) : (setObj r y).run P w = .ok () { w with heap := w.heap.setIfInBounds r y } := by
  cases x <;> simp [isIter] at hi <;> simp [setObj, Sem.run, hm]

theorem gives_nxt {x : Operand} {ty : TypeId} (hρ : Knows σ ρ) (h : sop P σ w.heap K Qp (.nxt x)) : Gives P (do pure (.value (← Instr.next (ρ x) false ty))) w K := by
  simp only [sop] at h
  split at h
  · rename_i r hx
    rw [hρ x _ hx]
    rcases h with ⟨since, seen, last, hr, hk⟩ | ⟨m, since, seen, last, es, clock, hr, hm, hborn, hok, h1, h2⟩
    · refine Gives.same (v := .tuple #[.bool false]) ?_ hk
      simp [Instr.next, run_getAny hr rfl w rfl]
    · have hnot : (!seen.isEmpty && !(⟨es⟩ : Array MapEntry).isEmpty && (⟨es⟩ : Array MapEntry).all (fun e => decide (e.born ≥ last))) = false := by
        rcases hok with rfl | rfl | hle
        · simp
        · simp
        · cases es with
          | nil => simp
          | cons e es =>
            have := hborn e (by simp)
            have hlt : ¬ e.born ≥ last := by omega
            simp [hlt]
      have hall : ∀ e ∈ es, decide (e.born < since) = true := fun e he => by simpa using hborn e he
      have hnone : ∀ e ∈ es, decide (e.born ≥ since) = false := fun e he => by have := hborn e he; simp; omega
      obtain ⟨left, hleft⟩ : ∃ left : List MapEntry, left = es.filter fun e => !seen.contains e.born := ⟨_, rfl⟩
      have hold : ((⟨es⟩ : Array MapEntry).filter fun e => !seen.contains e.born).filter (fun e => decide (e.born < since)) = ⟨left⟩ := by
        apply Array.ext'
        simp only [Array.toList_filter, ← hleft]
        refine List.filter_eq_self.2 fun e he => ?_
        rw [hleft] at he
        exact hall e (List.mem_filter.1 he).1
      have hnew : ((⟨es⟩ : Array MapEntry).filter fun e => !seen.contains e.born).filter (fun e => decide (e.born ≥ since)) = ⟨[]⟩ := by
        apply Array.ext'
        simp only [Array.toList_filter, ← hleft]
        refine List.filter_eq_nil_iff.2 fun e he => ?_
        rw [hleft] at he
        rw [hnone e (List.mem_filter.1 he).1]; simp
      cases hl : left with
      | nil =>
        have hdone : ∀ e ∈ es, seen.contains e.born = true := by
          intro e he
          by_cases hs : seen.contains e.born = true
          · exact hs
          · have : e ∈ left := by rw [hleft]; exact List.mem_filter.2 ⟨he, by simpa using hs⟩
            rw [hl] at this; simp at this
        obtain ⟨w1, hw1⟩ : ∃ w1 : World, w1 = (if (Question.mapNext 1).forced then w else { w with drawn := w.drawn + 1 }) := ⟨_, rfl⟩
        have hch : (choose (.mapNext 1)).run P w = .ok 0 w1 := by
          rw [run_choose, hw1]
          by_cases hf : (Question.mapNext 1).forced = true
          · simp [hf]
          · simp only [hf, if_false, Bool.false_eq_true]
            have : (Question.mapNext 1).cut (w.tape w.drawn (.mapNext 1)) = 0 := by simp [Question.cut]; omega
            rw [this]
        have hb1 : SameB w w1 := by rw [hw1]; split <;> exact ⟨rfl, rfl, rfl⟩
        have hh1 : w1.heap = w.heap := by rw [hw1]; split <;> rfl
        refine Gives.val (v := .tuple #[.bool false]) (w' := w1) ?_ hb1 (by rw [hh1]; exact h1 hdone)
        have hcand : (if (⟨[]⟩ : Array MapEntry).isEmpty = true then (#[none] : Array (Option MapEntry)) else #[]) ++ ((⟨[]⟩ : Array MapEntry) ++ (⟨[]⟩ : Array MapEntry)).map some = #[none] := by
          apply Array.ext'; simp
        have hsize : (#[none] : Array (Option MapEntry)).size = 1 := rfl
        have hc0 : (#[none] : Array (Option MapEntry))[0]? = some none := rfl
        simp only [Instr.next, Sem.run_bind, run_getAny hr rfl w rfl, Result.andThen_ok, run_getMap hm w rfl, hnot, Bool.false_eq_true, if_false, Sem.run_pure, hold, hnew, hl, hcand, hsize, hch, hc0]
      | cons e0 rest =>
        obtain ⟨q, hq⟩ : ∃ q, q = Question.mapNext (left.length) := ⟨_, rfl⟩
        obtain ⟨w1, j, hch, hj, hb1, hh1⟩ : ∃ w1 j, (choose q).run P w = .ok j w1 ∧ j < left.length ∧ SameB w w1 ∧ w1.heap = w.heap := by
          rw [run_choose]
          by_cases hf : q.forced = true
          · exact ⟨w, 0, by simp [hf], by rw [hl]; simp, SameB.refl w, rfl⟩
          · refine ⟨{ w with drawn := w.drawn + 1 }, q.cut (w.tape w.drawn q), by simp only [hf, if_false, Bool.false_eq_true], ?_, ⟨rfl, rfl, rfl⟩, rfl⟩
            rw [hq]
            have : 0 < left.length := by rw [hl]; simp
            simp only [Question.cut]
            exact Nat.mod_lt _ this
        obtain ⟨e, hje⟩ : ∃ e, left[j]? = some e := ⟨_, List.getElem?_eq_getElem hj⟩
        have hin : e ∈ left := List.mem_of_getElem? hje
        have hin2 := hin
        rw [hleft] at hin2
        obtain ⟨hees, hseen⟩ := List.mem_filter.1 hin2
        have hseen' : seen.contains e.born = false := by simpa using hseen
        have hr1 : w1.heap[r]? = some (.mapIter (some m) since seen last) := by rw [hh1]; exact hr
        refine Gives.val (v := .tuple #[.bool true, e.key, e.val]) (w' := { w1 with heap := w1.heap.setIfInBounds r (.mapIter (some m) since (seen.push e.born) clock) }) ?_ ⟨hb1.1, hb1.2.1, hb1.2.2⟩
          (by
            refine h2 e hees hseen' _ ?_
            show PutO w.heap (w1.heap.setIfInBounds r _) r _
            rw [hh1]
            exact putO_of_set hr)
        have hcand : (if (⟨left⟩ : Array MapEntry).isEmpty = true then (#[none] : Array (Option MapEntry)) else #[]) ++ ((⟨left⟩ : Array MapEntry) ++ (⟨[]⟩ : Array MapEntry)).map some = ⟨left.map some⟩ := by
          rw [hl]
          apply Array.ext'; simp
        have hsize : (⟨left.map some⟩ : Array (Option MapEntry)).size = left.length := by simp
        have hcj : (⟨left.map some⟩ : Array (Option MapEntry))[j]? = some (some e) := by simp [hje]
        simp only [Instr.next, Sem.run_bind, run_getAny hr rfl w rfl, Result.andThen_ok, run_getMap hm w rfl, hnot, Bool.false_eq_true, if_false, hold, hnew, hcand, hsize]
        rw [← hq, hch]
        simp only [Result.andThen_ok, hcj, Sem.run_bind, run_setAny hr1 rfl, Sem.run_pure]
  · exact h.elim

theorem gives_ent {x : Operand} (hρ : Knows σ ρ) (h : sop P σ w.heap K Qp (.ent x)) : Gives P (do pure (.value (← Instr.entry (ρ x)))) w K := by
  simp only [sop] at h
  split at h
  · rename_i r hx
    rw [hρ x _ hx]
    obtain ⟨m, since, seen, last, es, b, e, hr, hm, hb, he, hk⟩ := h
    refine Gives.same (v := .tuple #[e.key, e.val]) ?_ hk
    have hf : (⟨es⟩ : Array MapEntry).find? (fun e => e.born == b) = some e := by simpa using he
    simp only [Instr.entry, Sem.run_bind, run_getAny hr rfl w rfl, Result.andThen_ok, hb, run_getMap hm w rfl]
    simp [hf]
  · exact h.elim

theorem gives_cvm {s e _e' : TypeId} {x : Operand} (hρ : Knows σ ρ) (hs : P.underlying s = some (.slice e)) (he : P.underlying e = some (.int .u8))
    (h : sop P σ w.heap K Qp (.cvm x)) : Gives P (do pure (.value (← convert s s (ρ x)))) w K := by
  simp only [sop] at h
  split at h
  · rename_i b o n c hx
    obtain ⟨l, ⟨e1, k, hb, hkk⟩, hk⟩ := h
    rw [hρ x _ hx]
    have hlt := (Array.getElem?_eq_some_iff.1 hb).1
    have hsh : w.shape? b = some (e1, l.length) := by simp [World.shape?, hb]
    refine Gives.val (v := .slice (some ⟨b, o, none⟩) n c) (w' := w.freeze ⟨b, l.length, none⟩ 1) ?_ ⟨rfl, rfl, rfl⟩ (hk _ ?_)
    · simp [convert, run_underlying' hs, run_underlying' he, markStringish, hsh]
    · refine ⟨⟨e1, (l.length, l.length + 1), ?_, .inr rfl⟩, by simp [World.freeze], fun j hj => ?_, fun t ⟨c', k', ht⟩ => ?_⟩
      · show (w.heap.modify b _)[b]? = _
        rw [Array.getElem?_modify]
        rw [if_pos rfl, hb]
        rcases hkk with rfl | rfl <;> simp
      · show (w.heap.modify b _)[j]? = _
        rw [Array.getElem?_modify, if_neg (fun e => hj e.symm)]
      · refine ⟨c', ?_⟩
        show ∃ k, (w.heap.modify b _)[b]? = _
        rw [Array.getElem?_modify, if_pos rfl, ht]
        exact ⟨_, rfl⟩
  · exact h.elim

theorem gives_ixw {t e : TypeId} {n size : Nat} {x i : Operand} (hρ : Knows σ ρ) (hu : P.underlying t = some (.array n e)) (hg : aggOf P e = some true) (hs : szOf P e = some size)
    (h : sop P σ w.heap K Qp (.ixw n size x i)) : Gives P (do pure (.value (← Instr.index t (ρ x) (ρ i)))) w K := by
  simp only [sop] at h
  split at h
  · rename_i cs k j hx hi
    obtain ⟨h0, h1, hv, hk⟩ := h
    rw [hρ x _ hx, hρ i _ hi]
    refine Gives.same ?_ hk
    have he : cs.extract (j.toNat * size) (j.toNat * size + size) = ⟨(cs.toList.drop (j.toNat * size)).take size⟩ := by
      apply Array.ext'
      simp [List.extract_eq_take_drop]
    simp [Instr.index, asIntOf, run_underlying' hu, h0, h1, run_sizeOf' hs, part, run_isAgg' hg, he]
  · exact h.elim

theorem gives_clrm {t k e : TypeId} {x : Operand} {args : Array TypeId} {ty : TypeId} (hρ : Knows σ ρ) (ha : args = #[t]) (hu : P.underlying t = some (.map k e))
    (h : sop P σ w.heap K Qp (.clrm x)) : Gives P (do pure (.value (← Builtin.clear_ args ty #[ρ x]))) w K := by
  subst ha
  simp only [sop] at h
  split at h
  · rename_i hx
    rw [hρ x _ hx]
    exact Gives.same (by simp [Builtin.clear_, run_underlying' hu]) h
  · rename_i r hx
    obtain ⟨es, c, hm, hk⟩ := h
    rw [hρ x _ hx]
    refine Gives.val (v := .tuple #[]) (w' := { w with heap := w.heap.setIfInBounds r (.map ⟨[]⟩ c) }) ?_ ⟨rfl, rfl, rfl⟩ (hk _ (putO_of_set hm))
    simp [Builtin.clear_, run_underlying' hu, run_getMap hm w rfl, run_setMap (es' := []) hm]
  · exact h.elim

/-! ### Builders: types of blocks, unsafe pointers -/
theorem gives_newT {t : TypeId} {z : Value} (hz : zeroOf P t = some z) (h : sop P σ w.heap K Qp (.newT t z.cells.toList)) :
    Gives P (do pure (.value (← Instr.alloc t true (.tuple #[])))) w K := by
  simp only [sop] at h
  refine Gives.val (v := .pointer (some ⟨w.heap.size, 0, none⟩)) (w' := { w with heap := w.heap.push (.cells z.cells t) }) ?_ ⟨rfl, rfl, rfl⟩ (h _ _ (grow_of_push w.heap z.cells.toList t) ⟨_, _, Array.getElem?_push_size⟩)
  simp [Instr.alloc, run_zeroValue' hz, newVar, newRow]

theorem szOf_info {t : TypeId} {m : Nat} (h : szOf P t = some m) : ∃ j, P.info? t = some j ∧ j.size = m := by
  simpa [szOf, Option.map_eq_some_iff] using h

theorem gives_p2u {s d t : TypeId} {m : Nat} {x : Operand} (hρ : Knows σ ρ) (hs : P.underlying s = some (.pointer t)) (hd : P.underlying d = some .unsafePointer) (hz : szOf P t = some (m + 1))
    (h : sop P σ w.heap K Qp (.p2u x)) : Gives P (do pure (.value (← convert s d (ρ x)))) w K := by
  simp only [sop] at h
  split at h
  · rename_i b o hx
    obtain ⟨l, ⟨e, k, hb, _⟩, hlt, hk⟩ := h
    rw [hρ x _ hx]
    obtain ⟨j, hj, hjs⟩ := szOf_info hz
    exact Gives.same (Go.Lib.run_to_unsafe w ⟨b, o, none⟩ hs hd hj (by omega) (e := e) (cells := l.length) (by simp [World.shape?, hb]) hlt) hk
  · exact h.elim

theorem gives_u2p {s d t : TypeId} {n : Nat} {x : Operand} (hρ : Knows σ ρ) (hs : P.underlying s = some .unsafePointer) (hd : P.underlying d = some (.pointer t)) (hz : liesOwn P t = some n)
    (h : sop P σ w.heap K Qp (.u2p t n x)) : Gives P (do pure (.value (← convert s d (ρ x)))) w K := by
  simp only [sop] at h
  split at h
  · rename_i b hx
    obtain ⟨l, ⟨e, k, hb, _⟩, hl, ⟨c, k', ht⟩, hk⟩ := h
    rw [hρ x _ hx]
    rw [hb] at ht
    simp at ht
    obtain ⟨_, rfl, _⟩ := ht
    unfold liesOwn at hz
    split at hz
    · rename_i m hsz
      split at hz
      · rename_i q hq
        split at hz
        · rename_i hlies
          simp at hz
          obtain ⟨j, hj, hjs⟩ := szOf_info hsz
          refine Gives.same (Go.Lib.run_from_unsafe w ⟨b, 0, none⟩ hs hd hj (e := e) (cells := l.length) (by simp [World.shape?, hb]) ?_) hk
          rw [hq, hl, ← hz, Nat.div_self (Nat.succ_pos q)]
          exact hlies
        · simp at hz
      · simp at hz
    · simp at hz
  · exact h.elim

theorem gives_sld {x : Operand} {ts : Array TypeId} {ty : TypeId} (hρ : Knows σ ρ) (h : sop P σ w.heap K Qp (.sld x)) : Gives P (do pure (.value (← Builtin.unsafeSliceData_ ts ty #[ρ x]))) w K := by
  simp only [sop] at h
  split at h
  · rename_i n c hx
    rw [hρ x _ hx]
    exact Gives.same (Go.Lib.run_unsafeSliceData_nil w ts ty n c) h
  · rename_i a n c hx
    rw [hρ x _ hx]
    exact Gives.same (Go.Lib.run_unsafeSliceData_row w ts ty a n c h.1) h.2
  · exact h.elim

theorem gives_ust {pt it e : TypeId} {x n : Operand} {ty : TypeId} (hρ : Knows σ ρ) (hp : P.underlying pt = some (.pointer e)) (hc : P.cellsOf e = 1) (h : sop P σ w.heap K Qp (.ust e x n)) :
    Gives P (do pure (.value (← Builtin.unsafeString_ #[pt, it] ty #[ρ x, ρ n]))) w K := by
  simp only [sop] at h
  split at h
  · rename_i p k hx hn
    rw [hρ x _ hx, hρ n _ hn]
    by_cases hk : k = 0
    · subst hk
      exact Gives.same (Go.Lib.run_unsafeString_none w pt it ty p) (h.1 rfl)
    · obtain ⟨b, l, tot, rfl, rfl, h63, ⟨eb, kk, hb, _⟩, ⟨c, k', ht⟩, hle, hcell, hK⟩ := h.2 hk
      rw [hb] at ht
      simp at ht
      obtain ⟨_, rfl, _⟩ := ht
      have h0 : l ≠ [] := by rintro rfl; exact hk rfl
      have hz : ¬ l.length = 0 := fun e => hk (by omega)
      refine Gives.val (v := .string ⟨l.toArray⟩) (w' := w.freeze ⟨b, 0, none⟩ l.length) (Go.Lib.run_unsafeString_row w pt it ty eb hp hc b tot.length (by simp [World.shape?, hb]) l h0 hle (by omega) ?_) (by rw [World.freeze, if_neg hz]; exact ⟨rfl, rfl, rfl⟩) (hK _ (by rw [World.freeze, if_neg hz]; simp) fun j hj => ?_)
      · intro j y hy
        have := hcell j y hy
        simp only [cell, hb] at this
        simp [addr_add, World.cell?, hb]
        simpa using this
      · rw [World.freeze, if_neg hz]
        show (w.heap.modify b _)[j]? = _
        rw [Array.getElem?_modify, if_neg (fun e => hj e.symm)]
  · exact h.elim

/-! ### Ranges over strings -/
theorem gives_rngs {t : TypeId} {x : Operand} (hρ : Knows σ ρ) (hu : P.underlying t = some .string) (h : sop P σ w.heap K Qp (.rngs x)) :
    Gives P (do pure (.value (← Instr.range t (ρ x)))) w K := by
  simp only [sop] at h
  split at h
  · rename_i s hx
    rw [hρ x _ hx]
    refine Gives.val (v := .pointer (some ⟨w.heap.size, 0, none⟩)) (w' := { w with heap := w.heap.push (.stringIter s 0) }) ?_ ⟨rfl, rfl, rfl⟩ (h _ _ (growO_of_push w.heap _))
    simp [Instr.range, run_underlying' hu]
  · exact h.elim

theorem gives_nxts {x : Operand} {ty : TypeId} (hρ : Knows σ ρ) (h : sop P σ w.heap K Qp (.nxts x)) : Gives P (do pure (.value (← Instr.next (ρ x) true ty))) w K := by
  simp only [sop] at h
  split at h
  · rename_i r hx
    obtain ⟨s, pos, hr, h1, h2⟩ := h
    rw [hρ x _ hx]
    have hg : (getObj r).run P w = .ok (.stringIter s pos) w := by simp [getObj, Sem.run, hr]
    by_cases hp : pos < s.size
    · refine Gives.val (v := .tuple #[.bool true, .int .i64 pos, .int .i32 (Utf8.decode s pos).1]) (w' := { w with heap := w.heap.setIfInBounds r (.stringIter s (pos + (Utf8.decode s pos).2)) }) ?_ ⟨rfl, rfl, rfl⟩ (h2 hp _ (putO_of_set hr))
      have hs : (setObj r (.stringIter s (pos + (Utf8.decode s pos).2))).run P w = .ok () { w with heap := w.heap.setIfInBounds r (.stringIter s (pos + (Utf8.decode s pos).2)) } := by simp [setObj, Sem.run, hr]
      simp only [Instr.next, Sem.run_bind, hg, Result.andThen_ok, if_pos hp, hs, Sem.run_pure, goInt]
    · refine Gives.same (v := .tuple #[.bool false]) ?_ (h1 (by omega))
      simp only [Instr.next, Sem.run_bind, hg, Result.andThen_ok, if_neg hp, Sem.run_pure]
  · exact h.elim

end Go.Sx
