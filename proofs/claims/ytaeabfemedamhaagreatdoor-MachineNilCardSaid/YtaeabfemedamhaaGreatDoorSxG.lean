/-
  The simplified operations are sound, one by one: structs compared, slices cut, maps.
-/
import Derived.Test.YtaeabfemedamhaaGreatDoorSxF
namespace Go.Sx
open Go

variable {P : Program} {σ : Env} {ρ : Operand → Value} {w : World} {K : Value → Heap → Prop} {Qp : List PanicEntry → Heap → Prop}

theorem kdOf_agg {t : TypeId} {k : Kd} (h : kdOf P t = some k) : aggOf P t = some false := by
  have := kdOf_under h
  unfold aggOf
  rw [this]
  cases k <;> rfl

theorem run_equalIn_kd {t : TypeId} {k : Kd} (hk : kdOf P t = some k) {a b : Value} (ha : fits k a = true) (hb : fits k b = true) (d : Nat) (w : World) :
    ∃ r, (Op.equalIn (d + 1) t a b).run P w = .ok r w ∧ (r = true ↔ a = b) := by
  have hu := kdOf_under hk
  cases k with
  | int k =>
    cases a <;> simp [fits] at ha
    cases b <;> simp [fits] at hb
    subst ha; subst hb
    rename_i n m
    exact ⟨n == m, run_equalIn_int w d t _ _ n m hu, by simp⟩
  | str =>
    cases a <;> simp [fits] at ha
    cases b <;> simp [fits] at hb
    rename_i s u
    exact ⟨s.toList == u.toList, run_equalIn_string w d t s u hu, by rw [bytes_eq]; simp⟩
  | bool =>
    cases a <;> simp [fits] at ha
    cases b <;> simp [fits] at hb
    rename_i s u
    exact ⟨s == u, run_equalIn_bool' w d t s u hu, by simp⟩

theorem run_eqFields : ∀ (fs : List Field) (n : Nat) (ks : List Kd) (xs ys : List Value), kindsOf P n fs = some ks → fitsAll ks (xs.drop n) = true → fitsAll ks (ys.drop n) = true →
    ∀ w : World, ∃ r, (Op.eqFields 9999 ⟨xs⟩ ⟨ys⟩ fs).run P w = .ok r w ∧ (r = true ↔ xs.drop n = ys.drop n)
  | [], n, ks, xs, ys, hk, hx, hy, w => by
    simp [kindsOf] at hk; subst hk
    refine ⟨true, by simp [Op.eqFields], ?_⟩
    have h1 : xs.drop n = [] := by cases h : xs.drop n <;> simp_all [fitsAll]
    have h2 : ys.drop n = [] := by cases h : ys.drop n <;> simp_all [fitsAll]
    simp only [h1, h2]
  | f :: fs, n, ks, xs, ys, hk, hx, hy, w => by
    simp only [kindsOf] at hk
    split at hk
    · simp at hk
    · rename_i hf
      split at hk
      · rename_i k ks' hk1 hk2
        simp at hk; subst hk
        have hname : f.name ≠ "_" := fun e => hf (.inl e)
        have hoff : f.offset = n := by
          by_cases h : f.offset = n
          · exact h
          · exact absurd (.inr h) hf
        cases hxd : xs.drop n with
        | nil => rw [hxd] at hx; simp [fitsAll] at hx
        | cons a xr =>
          cases hyd : ys.drop n with
          | nil => rw [hyd] at hy; simp [fitsAll] at hy
          | cons b yr =>
            rw [hxd] at hx; rw [hyd] at hy
            simp only [fitsAll, Bool.and_eq_true] at hx hy
            have hxr : xs.drop (n + 1) = xr := by rw [← List.tail_drop, hxd]; rfl
            have hyr : ys.drop (n + 1) = yr := by rw [← List.tail_drop, hyd]; rfl
            have hxa : xs[n]? = some a := by rw [← List.head?_drop, hxd]; rfl
            have hyb : ys[n]? = some b := by rw [← List.head?_drop, hyd]; rfl
            obtain ⟨r1, hr1, hr1'⟩ := run_equalIn_kd hk1 hx.1 hy.1 9998 w
            obtain ⟨r2, hr2, hr2'⟩ := run_eqFields fs (n + 1) ks' xs ys hk2 (by rw [hxr]; exact hx.2) (by rw [hyr]; exact hy.2) w
            have pa : (part f.type ⟨xs⟩ f.offset).run P w = .ok a w := by
              simp [part, run_isAgg' (kdOf_agg hk1), hoff, hxa]
            have pb : (part f.type ⟨ys⟩ f.offset).run P w = .ok b w := by
              simp [part, run_isAgg' (kdOf_agg hk1), hoff, hyb]
            rw [hxr, hyr] at hr2'
            refine ⟨r1 && r2, ?_, ?_⟩
            · simp only [Op.eqFields, hname, ne_eq, not_false_eq_true, if_true, Sem.run_bind, pa, pb, Result.andThen_ok, hr1]
              cases r1
              · simp
              · simp [hr2]
            · simp only [Bool.and_eq_true, hr1', hr2', List.cons.injEq]
      · simp at hk

theorem gives_eqa {op : BinOp} {t : TypeId} {fs : Array Field} {ks : List Kd} {x y : Operand} {neg : Bool} (hop : (op = .eql ∧ neg = false) ∨ (op = .neq ∧ neg = true)) (hρ : Knows σ ρ)
    (hu : P.underlying t = some (.struct fs)) (hst : P.stoodInHeld t = false) (hg : P.eqGuardType P.depth t = false) (hk : kindsOf P 0 fs.toList = some ks)
    (h : sop P σ w.heap K Qp (.eqa neg ks x y)) : Gives P (binSem op t x y (ρ x) (ρ y)) w K := by
  simp only [sop] at h
  split at h
  · rename_i a b hx hy
    obtain ⟨ha, hb, h1, h2⟩ := h
    rw [hρ x _ hx, hρ y _ hy]
    obtain ⟨r, hr, hr'⟩ := run_eqFields fs.toList 0 ks a.toList b.toList hk (by simpa using ha) (by simpa using hb) w
    simp only [List.drop_zero] at hr'
    have hfo : P.fieldsOf t = fs := by simp [Program.fieldsOf, hu]
    have he := run_equalIn_agg (P := P) w 9999 t a b (by rw [hfo]; exact hu) hst
    rw [hfo] at he
    have he' : (Op.equalIn 10000 t (.agg a) (.agg b)).run P w = .ok r w := he.trans hr
    have hgd := run_eqGuard_agg (P := P) w op t x y a b hg
    have hb' : (binOp op t (.agg a) (.agg b)).run P w = .ok (.bool (bif r then !neg else neg)) w := by
      rcases hop with ⟨rfl, rfl⟩ | ⟨rfl, rfl⟩
      · rw [run_eql_struct, he']; cases r <;> rfl
      · rw [run_neq_struct, he']; cases r <;> rfl
    by_cases hab : a.toList = b.toList
    · have := hr'.2 hab; subst this
      exact Gives.bin hgd hb' (h1 hab)
    · have : r = false := by cases r with
        | false => rfl
        | true => exact absurd (hr'.1 rfl) hab
      subst this
      exact Gives.bin hgd hb' (h2 hab)
  · exact h.elim

/-! ### Cuts -/
theorem bndOf_spec {x : Option Operand} {d : Nat} {n : Int} (hρ : Knows σ ρ) (h : bndOf σ x d = some n) : (x = none ∧ n = d) ∨ (∃ y k, x = some y ∧ ρ y = .int k n) := by
  unfold bndOf at h
  cases x with
  | none => simp at h; exact .inl ⟨rfl, h.symm⟩
  | some y =>
    simp at h
    split at h
    · rename_i k m hy
      simp at h; subst h
      exact .inr ⟨y, k, rfl, hρ y _ hy⟩
    · simp at h

theorem run_sliceBound {k : IntKind} {i : Int} {y : Nat} {code : BoundsCode} (h0 : 0 ≤ i) (h1 : i ≤ (y : Int)) (w : World) : (Instr.sliceBound (.int k i) y code).run P w = .ok i.toNat w := by
  simp only [Instr.sliceBound, asIntOf, Sem.run_bind, Sem.run_pure, Result.andThen_ok, Sem.run_ite]
  rw [if_pos ⟨h0, h1⟩]

theorem run_sliceBounds {lo hi : Option Operand} {l m : Int} {n c : Nat} {isS : Bool} (hρ : Knows σ ρ) (hl : bndOf σ lo 0 = some l) (hh : bndOf σ hi n = some m)
    (h0 : 0 ≤ l) (h1 : l ≤ m) (h2 : m ≤ c) (w : World) : (Instr.sliceBounds isS n c (lo.map ρ) (hi.map ρ) none).run P w = .ok (l.toNat, m.toNat, c) w := by
  have hm0 : 0 ≤ m := Int.le_trans h0 h1
  have hlm : l ≤ (m.toNat : Int) := by omega
  rcases bndOf_spec hρ hh with ⟨rfl, rfl⟩ | ⟨y, k, rfl, hy⟩ <;> rcases bndOf_spec hρ hl with ⟨rfl, rfl⟩ | ⟨y2, k2, rfl, hy2⟩
  · simp [Instr.sliceBounds]
  · have hb := fun w => run_sliceBound (P := P) (k := k2) (code := .sliceB) h0 h1 w
    simp [Instr.sliceBounds, hy2, hb]
  · have hb := fun w => run_sliceBound (P := P) (k := k) (code := (if isS then .sliceAcap else .sliceAlen)) hm0 h2 w
    simp [Instr.sliceBounds, hy, hb]
  · have hb := fun w => run_sliceBound (P := P) (k := k) (code := (if isS then .sliceAcap else .sliceAlen)) hm0 h2 w
    have hb2 := fun w => run_sliceBound (P := P) (k := k2) (code := .sliceB) h0 hlm w
    simp [Instr.sliceBounds, hy, hy2, hb, hb2]

theorem gives_slc {t e : TypeId} {size : Nat} {x : Operand} {lo hi : Option Operand} (hρ : Knows σ ρ) (hu : P.underlying t = some (.slice e)) (hs : szOf P e = some size)
    (h : sop P σ w.heap K Qp (.slc size x lo hi)) : Gives P (do pure (.value (← Instr.sliceAt t (ρ x) (lo.map ρ) (hi.map ρ) none))) w K := by
  simp only [sop] at h
  split at h
  · rename_i a n c hx
    split at h
    · rename_i l m hl hm
      obtain ⟨h0, h1, h2, h⟩ := h
      rw [hρ x _ hx]
      have hb := run_sliceBounds (P := P) (isS := true) hρ hl hm h0 h1 h2 w
      have hsub1 : m.toNat - l.toNat = (m - l).toNat := by omega
      have hsub2 : c - l.toNat = ((c : Int) - l).toNat := by omega
      cases a with
      | none =>
        refine Gives.same (v := .slice none (m - l).toNat (c - l).toNat) ?_ h
        simp only [Instr.sliceAt, Sem.run_bind, run_underlying' hu, Result.andThen_ok, Instr.slice, hb, run_sizeOf' hs, Option.map_none, ite_self, Sem.run_pure, hsub1, hsub2]
      | some a =>
        obtain ⟨b, o, sp⟩ := a
        cases sp with
        | some s =>
          obtain ⟨hl0, h⟩ := h
          subst hl0
          refine Gives.same (v := .slice (some ⟨b, o, some s⟩) (m - 0).toNat ((c : Int) - 0).toNat) ?_ h
          simp only [Instr.sliceAt, Sem.run_bind, run_underlying' hu, Result.andThen_ok, Instr.slice, hb, run_sizeOf' hs, Sem.run_pure, hsub1, hsub2, Option.map_some]
          simp [Addr.add]
        | none =>
          refine Gives.same (v := .slice (some ⟨b, if c = l.toNat then o else o + l.toNat * size, none⟩) (m - l).toNat (c - l).toNat) ?_ (h _ (fun hlt => if_neg (by omega)) (fun he => if_pos (by omega)))
          simp only [Instr.sliceAt, Sem.run_bind, run_underlying' hu, Result.andThen_ok, Instr.slice, hb, run_sizeOf' hs, Sem.run_pure, hsub1, hsub2, Option.map_some, addr_add]
          split <;> rfl
    · exact h.elim
  · exact h.elim

theorem run_sliceBounds3 {lo : Option Operand} {hi mx : Operand} {l m k : Int} {n c : Nat} (hρ : Knows σ ρ) (hl : bndOf σ lo 0 = some l) (hh : bndOf σ (some hi) 0 = some m) (hk : bndOf σ (some mx) 0 = some k)
    (h0 : 0 ≤ l) (h1 : l ≤ m) (h2 : m ≤ k) (h3 : k ≤ c) (w : World) : (Instr.sliceBounds true n c (lo.map ρ) ((some hi).map ρ) ((some mx).map ρ)).run P w = .ok (l.toNat, m.toNat, k.toNat) w := by
  have hm0 : 0 ≤ m := Int.le_trans h0 h1
  have hk0 : 0 ≤ k := Int.le_trans hm0 h2
  have hlm : l ≤ (m.toNat : Int) := by omega
  have hmk : m ≤ (k.toNat : Int) := by omega
  rcases bndOf_spec hρ hh with ⟨e, _⟩ | ⟨y, ky, e, hy⟩
  · cases e
  cases e
  rcases bndOf_spec hρ hk with ⟨e, _⟩ | ⟨y3, ky3, e, hy3⟩
  · cases e
  cases e
  have hb3 := fun w => run_sliceBound (P := P) (k := ky3) (code := .slice3Acap) hk0 h3 w
  have hb1 := fun w => run_sliceBound (P := P) (k := ky) (code := .slice3B) hm0 hmk w
  rcases bndOf_spec hρ hl with ⟨rfl, rfl⟩ | ⟨y2, k2, rfl, hy2⟩
  · simp [Instr.sliceBounds, hy, hy3, hb1, hb3]
  · have hb2 := fun w => run_sliceBound (P := P) (k := k2) (code := .slice3C) h0 hlm w
    simp [Instr.sliceBounds, hy, hy2, hy3, hb1, hb2, hb3]

theorem gives_slc3 {t e : TypeId} {size : Nat} {x : Operand} {lo : Option Operand} {hi mx : Operand} (hρ : Knows σ ρ) (hu : P.underlying t = some (.slice e)) (hs : szOf P e = some size)
    (h : sop P σ w.heap K Qp (.slc3 size x lo hi mx)) : Gives P (do pure (.value (← Instr.sliceAt t (ρ x) (lo.map ρ) ((some hi).map ρ) ((some mx).map ρ)))) w K := by
  simp only [sop] at h
  split at h
  · rename_i a n c hx
    split at h
    · rename_i l m k hl hm hk
      obtain ⟨h0, h1, h2, h3, h⟩ := h
      rw [hρ x _ hx]
      have hb : (Instr.sliceBounds true n c (lo.map ρ) (some (ρ hi)) (some (ρ mx))).run P w = .ok (l.toNat, m.toNat, k.toNat) w := run_sliceBounds3 (P := P) (n := n) hρ hl hm hk h0 h1 h2 h3 w
      have hsub1 : m.toNat - l.toNat = (m - l).toNat := by omega
      have hsub2 : k.toNat - l.toNat = ((k.toNat : Int) - l).toNat := by omega
      cases a with
      | none =>
        refine Gives.same (v := .slice none (m - l).toNat ((k.toNat : Int) - l).toNat) ?_ h
        simp only [Instr.sliceAt, Sem.run_bind, run_underlying' hu, Result.andThen_ok, Instr.slice, Option.map_some, hb, run_sizeOf' hs, Option.map_none, ite_self, Sem.run_pure, hsub1, hsub2]
      | some a =>
        obtain ⟨b, o, sp⟩ := a
        cases sp with
        | some s =>
          obtain ⟨hl0, h⟩ := h
          subst hl0
          refine Gives.same (v := .slice (some ⟨b, o, some s⟩) (m - 0).toNat ((k.toNat : Int) - 0).toNat) ?_ h
          simp only [Instr.sliceAt, Sem.run_bind, run_underlying' hu, Result.andThen_ok, Instr.slice, hb, run_sizeOf' hs, Sem.run_pure, hsub1, hsub2, Option.map_some]
          simp [Addr.add]
        | none =>
          refine Gives.same (v := .slice (some ⟨b, if k.toNat = l.toNat then o else o + l.toNat * size, none⟩) (m - l).toNat ((k.toNat : Int) - l).toNat) ?_ (h _ (fun hlt => if_neg (by omega)) (fun he => if_pos (by omega)))
          simp only [Instr.sliceAt, Sem.run_bind, run_underlying' hu, Result.andThen_ok, Instr.slice, hb, run_sizeOf' hs, Sem.run_pure, hsub1, hsub2, Option.map_some, addr_add]
          split <;> rfl
    · exact h.elim
  · exact h.elim

theorem gives_sls {t : TypeId} {x : Operand} {lo hi : Option Operand} (hρ : Knows σ ρ) (hu : P.underlying t = some .string)
    (h : sop P σ w.heap K Qp (.sls x lo hi)) : Gives P (do pure (.value (← Instr.sliceAt t (ρ x) (lo.map ρ) (hi.map ρ) none))) w K := by
  simp only [sop] at h
  split at h
  · rename_i s hx
    split at h
    · rename_i l m hl hm
      obtain ⟨h0, h1, h2, h⟩ := h
      rw [hρ x _ hx]
      have hb := run_sliceBounds (P := P) (isS := false) hρ hl hm h0 h1 h2 w
      refine Gives.same ?_ h
      simp [Instr.sliceAt, run_underlying' hu, Instr.slice, hb]
    · exact h.elim
  · exact h.elim

/-! ### Making -/
theorem gives_mks {t e : TypeId} {i : TypeInfo} {z : List Value} {x y : Operand} (hρ : Knows σ ρ) (hu : P.underlying t = some (.slice e)) (hi : P.info? e = some i) (hz : zeros P e i.size = some z)
    (h : sop P σ w.heap K Qp (.mks i.bytes z x y)) : Gives P (do pure (.value (← Instr.makeSlice t (ρ x) (ρ y)))) w K := by
  obtain ⟨zv, hzv, rfl, hzs⟩ := zeros_spec hz
  have hzi : i.zero = some zv := by unfold zeroOf at hzv; rw [hi] at hzv; exact hzv
  simp only [sop] at h
  split at h
  · rename_i n c hx hy
    obtain ⟨h0, h1, h2, h3, h⟩ := h
    rw [hρ x _ hx, hρ y _ hy]
    have hr := run_make (P := P) w t e i zv hu hi hzi .i64 .i64 n c h0 h1 h2 (by omega)
    refine Gives.val hr ⟨rfl, rfl, rfl⟩ (h _ _ ?_)
    have hm : madeCells zv.cells (c.toNat * i.size) = ⟨(List.replicate c.toNat zv.cells.toList).flatten⟩ := by
      rw [← range_zeros]; simp [madeCells, hzs]
    rw [hm]
    exact grow_of_push w.heap _ e
  · exact h.elim

theorem gives_mkm {t k e : TypeId} {r : Option Operand} (hu : P.underlying t = some (.map k e)) (hr : r = none ∨ ∃ kk n, r = some (.const (.int kk n))) (hρ : Knows σ ρ)
    (h : sop P σ w.heap K Qp .mkm) : Gives P (do pure (.value (← Instr.makeMap t (r.map ρ)))) w K := by
  simp only [sop] at h
  refine Gives.val (v := .map (some w.heap.size)) (w' := { w with heap := w.heap.push (.map #[] 0) }) ?_ ⟨rfl, rfl, rfl⟩ (h _ _ (growO_of_push w.heap _))
  rcases hr with rfl | ⟨kk, n, rfl⟩
  · simp [Instr.makeMap]
  · simp [Instr.makeMap, hρ (.const (.int kk n)) _ rfl, run_underlying' hu, asInt, asIntOf]

/-! ### Maps -/
theorem fits_checkKey {t : TypeId} {k : Kd} (hk : kdOf P t = some k) (v : Value) (hv : fits k v = true) (em : Bool) (w : World) : (Instr.checkKey em 10000 t v).run P w = .ok () w := by
  have hu := kdOf_under hk
  unfold Instr.checkKey
  cases k <;> cases v <;> simp [fits] at hv <;> simp [run_underlying' hu, Kd.type]

theorem sameNow_eq {k : Kd} {a b : Value} (ha : fits k a = true) (hb : fits k b = true) :
    Instr.sameNow k.type a b = some (Instr.sameBits 10000 a b) := by
  cases k <;> cases a <;> simp [fits] at ha <;> cases b <;> simp [fits] at hb <;> simp_all [Instr.sameNow, Instr.sameBits, Kd.type]

theorem findNow_eq {k : Kd} {a : Value} (ha : fits k a = true) : ∀ (es : List MapEntry) (i : Nat), (∀ e ∈ es, fits k e.key = true) →
    Instr.findNow k.type a es i = some (mfind a es i)
  | [], i, _ => rfl
  | e :: es, i, h => by
    have ih := findNow_eq ha es (i + 1) (fun x hx => h x (by simp [hx]))
    simp only [Instr.findNow, sameNow_eq ha (h e (by simp)), mfind]
    cases Instr.sameBits 10000 a e.key <;> simp [ih]

theorem run_findKey {t : TypeId} {k : Kd} (hk : kdOf P t = some k) {a : Value} (ha : fits k a = true) (es : List MapEntry) (h : ∀ e ∈ es, fits k e.key = true) (w : World) :
    (Instr.findKey t a es).run P w = .ok (mfind a es 0) w := by
  have hu := kdOf_under hk
  simp only [Instr.findKey, Sem.run_bind, run_underlying' hu, Result.andThen_ok, findNow_eq ha es 0 h, Sem.run_pure]

theorem run_getMap {h : Heap} {r c : Nat} {es : List MapEntry} (hm : MapB h r es c) (w : World) (hw : w.heap = h) : (getObj r).run P w = .ok (.map ⟨es⟩ c) w := by
  have hm' : h[r]? = some (.map ⟨es⟩ c) := hm
  simp [getObj, Sem.run, hw, hm']

theorem gives_lenm {t k e : TypeId} {x : Operand} {args : Array TypeId} {ty : TypeId} (hρ : Knows σ ρ) (ha : args = #[t]) (hu : P.underlying t = some (.map k e))
    (h : sop P σ w.heap K Qp (.lenm x)) : Gives P (do pure (.value (← Builtin.len_ args ty #[ρ x]))) w K := by
  subst ha
  simp only [sop] at h
  split at h
  · rename_i hx
    rw [hρ x _ hx]
    exact Gives.same (by simp [Builtin.len_, run_underlying' hu, goInt]) h
  · rename_i r hx
    obtain ⟨es, c, hm, hk⟩ := h
    rw [hρ x _ hx]
    exact Gives.same (by simp [Builtin.len_, run_underlying' hu, goInt, run_getMap hm w rfl]) hk
  · exact h.elim

theorem gives_look {t kt et : TypeId} {kd : Kd} {z : Value} {ok : Bool} {m k : Operand} (hρ : Knows σ ρ) (hu : P.underlying t = some (.map kt et)) (hk : kdOf P kt = some kd) (hz : zeroOf P et = some z)
    (h : sop P σ w.heap K Qp (.look kd z ok m k)) : Gives P (do pure (.value (← Instr.lookup t (ρ m) (ρ k) ok))) w K := by
  simp only [sop] at h
  split at h
  · rename_i kv hm hkv
    obtain ⟨hf, h⟩ := h
    rw [hρ m _ hm, hρ k _ hkv]
    refine Gives.same ?_ h
    simp [Instr.lookup, run_underlying' hu, fits_checkKey hk kv hf, run_findKey hk hf, mfind, run_zeroValue' hz]
  · rename_i r kv hm hkv
    obtain ⟨hf, es, c, hb, hes, h⟩ := h
    rw [hρ m _ hm, hρ k _ hkv]
    have h1 : ∀ em, (Instr.checkKey em 10000 kt kv).run P w = .ok () w := fun em => fits_checkKey hk kv hf em w
    have h2 := run_findKey hk hf es hes w
    split at h
    · rename_i i v hv
      refine Gives.same ?_ h
      simp [Instr.lookup, run_underlying' hu, run_getMap hb w rfl, h1, h2, hv]
    · rename_i hv
      refine Gives.same ?_ h
      simp [Instr.lookup, run_underlying' hu, run_getMap hb w rfl, h1, h2, hv, run_zeroValue' hz]
  · exact h.elim

theorem sameBits_eq {k : Kd} {a b : Value} (ha : fits k a = true) (hb : fits k b = true) (h : Instr.sameBits 10000 a b = true) : a = b := by
  cases k <;> cases a <;> simp [fits] at ha <;> cases b <;> simp [fits] at hb <;> simp_all [Instr.sameBits]
  rename_i s u
  rw [beq_toListBytes, bytes_eq] at h
  simpa using h

theorem sameBits_refl {k : Kd} {a : Value} (ha : fits k a = true) : Instr.sameBits 10000 a a = true := by
  cases k <;> cases a <;> simp [fits] at ha <;> simp [Instr.sameBits]
  rename_i s
  rw [beq_toListBytes]; simp

theorem mfind_spec {k : Kd} {a : Value} (ha : fits k a = true) : ∀ (es : List MapEntry) (i j : Nat) (v : Value), (∀ e ∈ es, fits k e.key = true) → mfind a es i = some (j, v) →
    i ≤ j ∧ ∃ e, es[j - i]? = some e ∧ e.key = a ∧ e.val = v
  | [], i, j, v, _, h => by simp [mfind] at h
  | e :: es, i, j, v, hf, h => by
    simp only [mfind] at h
    split at h
    · rename_i hs
      simp at h
      obtain ⟨rfl, rfl⟩ := h
      exact ⟨Nat.le_refl _, e, by simp, (sameBits_eq ha (hf e (by simp)) hs).symm, rfl⟩
    · obtain ⟨h1, e', h2, h3⟩ := mfind_spec ha es (i + 1) j v (fun x hx => hf x (by simp [hx])) h
      refine ⟨by omega, e', ?_, h3⟩
      have : j - i = (j - (i + 1)) + 1 := by omega
      rw [this, List.getElem?_cons_succ]; exact h2

theorem run_setMap {r c c' : Nat} {es es' : List MapEntry} (hm : MapB w.heap r es c) : (setObj r (.map ⟨es'⟩ c')).run P w = .ok () { w with heap := w.heap.setIfInBounds r (.map ⟨es'⟩ c') } := by
  have hm' : w.heap[r]? = some (.map ⟨es⟩ c) := hm
  simp [setObj, Sem.run, hm']

theorem gives_mup {t kt et : TypeId} {kd : Kd} {m k v : Operand} (hρ : Knows σ ρ) (hu : P.underlying t = some (.map kt et)) (hk : kdOf P kt = some kd)
    (h : sop P σ w.heap K Qp (.mup kd m k v)) : Gives P (do Instr.mapUpdate t (ρ m) (ρ k) (ρ v); pure .skip) w K := by
  simp only [sop] at h
  split at h
  · rename_i r kv vv hm hkv hvv
    obtain ⟨hf, es, c, hb, hes, h⟩ := h
    rw [hρ m _ hm, hρ k _ hkv, hρ v _ hvv]
    have h1 : ∀ em, (Instr.checkKey em 10000 kt kv).run P w = .ok () w := fun em => fits_checkKey hk kv hf em w
    have h2 := run_findKey hk hf es hes w
    split at h
    · rename_i i v0 hv
      obtain ⟨_, e, he, hek, hev⟩ := mfind_spec hf es 0 i v0 hes hv
      rw [Nat.sub_zero] at he
      have hsame : Instr.sameBits 10000 e.key kv = true := by rw [hek]; exact sameBits_refl hf
      have hmod : es.modify i (fun e => { e with key := kv, val := vv }) = es.modify i (fun e => { e with val := vv }) := by
        apply List.ext_getElem?
        intro j
        rw [List.getElem?_modify, List.getElem?_modify]
        by_cases hj : i = j
        · subst hj; simp [he, ← hek]
        · simp [hj]
      refine ⟨undef, { w with heap := w.heap.setIfInBounds r (.map ⟨es.modify i fun e => { e with val := vv }⟩ c) }, .inr ⟨?_, rfl⟩, ⟨rfl, rfl, rfl⟩, h _ (putO_of_set hb)⟩
      have hks : (Instr.keyThatStays (((⟨es⟩ : Array MapEntry)[i]?.map (·.key)).getD kv) kv).run P w = .ok kv w := by
        simp [Instr.keyThatStays, he, hsame]
      have hma : (⟨es⟩ : Array MapEntry).modify i (fun e => { e with key := kv, val := vv }) = ⟨es.modify i fun e => { e with val := vv }⟩ := by
        rw [← hmod]; apply Array.ext'; simp
      simp only [Instr.mapUpdate, Sem.run_bind, run_underlying' hu, Result.andThen_ok, run_getMap hb w rfl, h1, h2, hv, hks]
      rw [hma, run_setMap hb]
      rfl
    · rename_i hv
      refine ⟨undef, { w with heap := w.heap.setIfInBounds r (.map ⟨es ++ [{ key := kv, val := vv, born := c }]⟩ (c + 1)) }, .inr ⟨?_, rfl⟩, ⟨rfl, rfl, rfl⟩, h _ (putO_of_set hb)⟩
      have hpush : (⟨es⟩ : Array MapEntry).push { key := kv, val := vv, born := c } = ⟨es ++ [{ key := kv, val := vv, born := c }]⟩ := by apply Array.ext'; simp
      simp only [Instr.mapUpdate, Sem.run_bind, run_underlying' hu, Result.andThen_ok, run_getMap hb w rfl, h1, h2, hv]
      rw [hpush, run_setMap hb]
      rfl
  · exact h.elim

theorem gives_mdel {t u kt et : TypeId} {kd : Kd} {m k : Operand} {ty : TypeId} (hρ : Knows σ ρ) (hu : P.underlying t = some (.map kt et)) (hk : kdOf P kt = some kd)
    (h : sop P σ w.heap K Qp (.mdel kd m k)) : Gives P (do pure (.value (← Builtin.delete_ #[t, u] ty #[ρ m, ρ k]))) w K := by
  simp only [sop] at h
  split at h
  · rename_i kv hm hkv
    rw [hρ m _ hm, hρ k _ hkv]
    refine Gives.same ?_ h.2
    simp [Builtin.delete_, run_underlying' hu, fits_checkKey hk kv h.1]
  · rename_i r kv hm hkv
    obtain ⟨hf, es, c, hb, hes, h⟩ := h
    rw [hρ m _ hm, hρ k _ hkv]
    have h1 : ∀ em, (Instr.checkKey em 10000 kt kv).run P w = .ok () w := fun em => fits_checkKey hk kv hf em w
    have h2 := run_findKey hk hf es hes w
    split at h
    · rename_i i v hv
      refine Gives.val (v := .tuple #[]) (w' := { w with heap := w.heap.setIfInBounds r (.map ⟨es.eraseIdx i⟩ c) }) ?_ ⟨rfl, rfl, rfl⟩ (h _ (putO_of_set hb))
      have he : (⟨es⟩ : Array MapEntry).eraseIdxIfInBounds i = ⟨es.eraseIdx i⟩ := by apply Array.ext'; simp
      simp only [Builtin.delete_, Sem.run_bind, run_underlying' hu, Result.andThen_ok, run_getMap hb w rfl, h1, h2, hv, List.getElem?_toArray, List.getElem?_cons_zero, List.getElem?_cons_succ]
      rw [he, run_setMap hb]
      rfl
    · rename_i hv
      refine Gives.val (v := .tuple #[]) (w' := { w with heap := w.heap.setIfInBounds r (.map ⟨es⟩ c) }) ?_ ⟨rfl, rfl, rfl⟩ (h _ (putO_of_set hb))
      simp only [Builtin.delete_, Sem.run_bind, run_underlying' hu, Result.andThen_ok, run_getMap hb w rfl, h1, h2, hv, List.getElem?_toArray, List.getElem?_cons_zero, List.getElem?_cons_succ]
      rw [run_setMap hb]
      rfl
  · exact h.elim

end Go.Sx
