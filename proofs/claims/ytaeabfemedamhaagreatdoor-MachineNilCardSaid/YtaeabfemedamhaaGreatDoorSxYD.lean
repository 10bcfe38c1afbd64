/-
  Runs of simplified code: what is read and written, soundly.
-/
import Derived.Test.YtaeabfemedamhaaGreatDoorSxYC
namespace Go.Sx
open Go

section
variable {P : Program} {ρ ρ' : Rho} {F : Nat → Prop} {h0 h h' : Heap} {H H' : AH} {E : AE} {σ : Env}

theorem mkI_eq (k : IntKind) (z : Int) : mkI k z = .i k z := by
  cases z <;> simp [mkI]
theorem wrapF_eq (k : IntKind) (z : Int) : wrapF k z = k.wrap z := by
  unfold wrapF
  split
  · rename_i n
    cases hb : Nat.blt n 9223372036854775808 with
    | false => rfl
    | true =>
      have hlt : n < 9223372036854775808 := Nat.le_of_ble_eq_true hb
      exact (wrap_in (x := Int.ofNat n) (by simp only [Int.ofNat_eq_natCast]; omega) (by simp only [Int.ofNat_eq_natCast]; omega)).symm
  · rfl
theorem arithF_eq (op : BinOp) (k : IntKind) (a b : Int) : arithF op k a b = arith op k a b := by
  unfold arithF arith
  cases op <;> simp only [wrapF_eq]

/-! ### Operands that are known -/
theorem ev_i (hR : Rep F h0 ρ H h) (hE : RE ρ E σ) {x : Operand} {k : IntKind} {n : Int} (hx : aev H E x = some (.i k n)) : ev σ x = some (.int k n) := by
  obtain ⟨v, h1, h2⟩ := aev_sound hR hE hx
  simp [conc] at h1; rw [h2, ← h1]
theorem ev_b (hR : Rep F h0 ρ H h) (hE : RE ρ E σ) {x : Operand} {t : Bool} (hx : aev H E x = some (.b t)) : ev σ x = some (.bool t) := by
  obtain ⟨v, h1, h2⟩ := aev_sound hR hE hx
  simp [conc] at h1; rw [h2, ← h1]
theorem ev_s (hR : Rep F h0 ρ H h) (hE : RE ρ E σ) {x : Operand} {l : List UInt8} (hx : aev H E x = some (.s l)) : ev σ x = some (.string ⟨⟨l⟩⟩) := by
  obtain ⟨v, h1, h2⟩ := aev_sound hR hE hx
  simp [conc] at h1; rw [h2, ← h1]
theorem ev_np (hR : Rep F h0 ρ H h) (hE : RE ρ E σ) {x : Operand} (hx : aev H E x = some .np) : ev σ x = some (.pointer none) := by
  obtain ⟨v, h1, h2⟩ := aev_sound hR hE hx
  simp [conc] at h1; rw [h2, ← h1]
theorem ev_ni (hR : Rep F h0 ρ H h) (hE : RE ρ E σ) {x : Operand} (hx : aev H E x = some .ni) : ev σ x = some .nilIface := by
  obtain ⟨v, h1, h2⟩ := aev_sound hR hE hx
  simp [conc] at h1; rw [h2, ← h1]
theorem ev_ns (hR : Rep F h0 ρ H h) (hE : RE ρ E σ) {x : Operand} (hx : aev H E x = some .ns) : ev σ x = some (.slice none 0 0) := by
  obtain ⟨v, h1, h2⟩ := aev_sound hR hE hx
  simp [conc] at h1; rw [h2, ← h1]
theorem ev_nm (hR : Rep F h0 ρ H h) (hE : RE ρ E σ) {x : Operand} (hx : aev H E x = some .nm) : ev σ x = some (.map none) := by
  obtain ⟨v, h1, h2⟩ := aev_sound hR hE hx
  simp [conc] at h1; rw [h2, ← h1]
theorem ev_p (hR : Rep F h0 ρ H h) (hE : RE ρ E σ) {x : Operand} {a o : Nat} (hx : aev H E x = some (.p a o)) : ∃ b ba cp, ρ.pl a = some (b, ba, cp) ∧ ev σ x = some (.pointer (some ⟨b, ba + o, none⟩)) := by
  obtain ⟨v, h1, h2⟩ := aev_sound hR hE hx
  simp only [conc] at h1
  split at h1
  · rename_i b ba cp hp
    simp at h1; exact ⟨b, ba, cp, hp, by rw [h2, ← h1]⟩
  · simp at h1
theorem ev_sl (hR : Rep F h0 ρ H h) (hE : RE ρ E σ) {x : Operand} {a o n c : Nat} (hx : aev H E x = some (.sl a o n c)) : ∃ b ba cp, ρ.pl a = some (b, ba, cp) ∧ ev σ x = some (.slice (some ⟨b, ba + o, none⟩) n c) := by
  obtain ⟨v, h1, h2⟩ := aev_sound hR hE hx
  simp only [conc] at h1
  split at h1
  · rename_i b ba cp hp
    simp at h1; exact ⟨b, ba, cp, hp, by rw [h2, ← h1]⟩
  · simp at h1
theorem ev_su (hR : Rep F h0 ρ H h) (hE : RE ρ E σ) {x : Operand} {a o n k : Nat} (hx : aev H E x = some (.su a o n k)) : ∃ b ba cp, ρ.pl a = some (b, ba, cp) ∧ n + k ≤ cp ∧ ev σ x = some (.slice (some ⟨b, ba + o, none⟩) n (cp - k)) := by
  obtain ⟨v, h1, h2⟩ := aev_sound hR hE hx
  simp only [conc] at h1
  split at h1
  · rename_i b ba cp hp
    split at h1
    · rename_i hle
      simp at h1; exact ⟨b, ba, cp, hp, hle, by rw [h2, ← h1]⟩
    · simp at h1
  · simp at h1
theorem ev_m (hR : Rep F h0 ρ H h) (hE : RE ρ E σ) {x : Operand} {a : Nat} (hx : aev H E x = some (.m a)) : ∃ b ba cp, ρ.pl a = some (b, ba, cp) ∧ ev σ x = some (.map (some b)) := by
  obtain ⟨v, h1, h2⟩ := aev_sound hR hE hx
  simp only [conc] at h1
  split at h1
  · rename_i b ba cp hp
    simp at h1; exact ⟨b, ba, cp, hp, by rw [h2, ← h1]⟩
  · simp at h1
theorem ev_g (hR : Rep F h0 ρ H h) (hE : RE ρ E σ) {x : Operand} {l : List AV} (hx : aev H E x = some (.g l)) : ∃ vs, concs ρ l = some vs ∧ ev σ x = some (.agg ⟨vs⟩) := by
  obtain ⟨v, h1, h2⟩ := aev_sound hR hE hx
  simp only [conc] at h1
  split at h1
  · rename_i vs hp
    simp at h1; exact ⟨vs, hp, by rw [h2, ← h1]⟩
  · simp at h1
theorem ev_t (hR : Rep F h0 ρ H h) (hE : RE ρ E σ) {x : Operand} {l : List AV} (hx : aev H E x = some (.t l)) : ∃ vs, concs ρ l = some vs ∧ ev σ x = some (.tuple ⟨vs⟩) := by
  obtain ⟨v, h1, h2⟩ := aev_sound hR hE hx
  simp only [conc] at h1
  split at h1
  · rename_i vs hp
    simp at h1; exact ⟨vs, hp, by rw [h2, ← h1]⟩
  · simp at h1
theorem ev_e (hR : Rep F h0 ρ H h) (hE : RE ρ E σ) {x : Operand} {t : Nat} {a : AV} (hx : aev H E x = some (.e t a)) : ∃ v, conc ρ a = some v ∧ ev σ x = some (.iface t v) := by
  obtain ⟨v, h1, h2⟩ := aev_sound hR hE hx
  simp only [conc] at h1
  split at h1
  · rename_i u hp
    simp at h1; exact ⟨u, hp, by rw [h2, ← h1]⟩
  · simp at h1
theorem ev_f (hR : Rep F h0 ρ H h) (hE : RE ρ E σ) {x : Operand} {f : Nat} {fi cap : List AV} (hx : aev H E x = some (.f f fi cap)) : ∃ vs us, concs ρ fi = some vs ∧ concs ρ cap = some us ∧ ev σ x = some (.func (.func f) ⟨vs⟩ ⟨us⟩) := by
  obtain ⟨v, h1, h2⟩ := aev_sound hR hE hx
  simp only [conc] at h1
  split at h1
  · rename_i a b ha hb
    simp at h1; exact ⟨a, b, ha, hb, by rw [h2, ← h1]⟩
  · simp at h1
theorem ev_y (hR : Rep F h0 ρ H h) (hE : RE ρ E σ) {x : Operand} {l : Nat} (hx : aev H E x = some (.y l)) : ∃ b ba cp, ρ.pl l = some (b, ba, cp) ∧ ev σ x = some (.func (.yield b) #[] #[]) := by
  obtain ⟨v, h1, h2⟩ := aev_sound hR hE hx
  simp only [conc] at h1
  split at h1
  · rename_i b ba cp hp
    simp at h1; exact ⟨b, ba, cp, hp, by rw [h2, ← h1]⟩
  · simp at h1
theorem ev_bnd (hR : Rep F h0 ρ H h) (hE : RE ρ E σ) {x : Option Operand} {d : Nat} {n : Int} (hx : abnd H E x d = some n) : bndOf σ x d = some n := by
  cases x with
  | none => simpa [abnd, bndOf] using hx
  | some y =>
    simp only [abnd] at hx
    split at hx
    · rename_i k m hy
      simp at hx; subst hx
      simp only [bndOf, ev_i hR hE hy]
    · simp at hx

/-! ### Cells -/
theorem getB_get {a : Nat} {w : Bool} {g : Nat} {l : List AV} (hg : getB H a = some (w, g, l)) : H.get a = some (.cells w g l) := by
  unfold getB at hg
  split at hg
  · rename_i w' g' l' hx
    simp at hg
    obtain ⟨rfl, rfl, rfl⟩ := hg
    exact hx
  · simp at hg

structure CellsAt (ρ : Rho) (h : Heap) (b ba cp : Nat) (w : Bool) (g : Nat) (l : List AV) (vs pre tail : List Value) : Prop where
  cs : concs ρ l = some vs
  pl : pre.length = ba
  gz : g % gM ≠ 0 → l.length ≤ cp * (g % gM) ∧ cp * (g % gM) ≤ l.length + tail.length
  wide : BlkW h b (pre ++ (vs ++ tail))
  strict : w = false → Blk h b (pre ++ (vs ++ tail))
  tag : g / gM ≠ 0 → ba = 0 ∧ TyB h b (g / gM) ∧ (g % gM = 0 → tail = [])

theorem Blk.w {b : Nat} {l : List Value} (hb : Blk h b l) : BlkW h b l := let ⟨e, x⟩ := hb; ⟨e, (0, 0), x, .inl rfl⟩

theorem Rep.cells (hR : Rep F h0 ρ H h) {a b ba cp : Nat} {w : Bool} {g : Nat} {l : List AV} (hg : getB H a = some (w, g, l)) (hp : ρ.pl a = some (b, ba, cp)) : ∃ vs pre tail, CellsAt ρ h b ba cp w g l vs pre tail := by
  obtain ⟨r, hr, _, _, vs, pre, tail, h1, h2, h3, h4, h5⟩ := hR.obj a _ (getB_get hg) (by simp)
  rw [hp] at hr; simp at hr; subst hr
  refine ⟨vs, pre, tail, h1, h2, h3, ?_, fun hw => ?_, h5⟩
  · cases w with
    | true => exact h4
    | false => exact Blk.w h4
  · subst hw; exact h4

theorem cellW {b o : Nat} {l : List Value} {v : Value} (hb : BlkW h b l) (hv : l[o]? = some v) : cell h b o = some v := by
  obtain ⟨e, k, x, _⟩ := hb
  simp [cell, x, hv]

theorem CellsAt.cell {b ba cp g : Nat} {w : Bool} {l : List AV} {vs pre tail : List Value} (c : CellsAt ρ h b ba cp w g l vs pre tail) {i : Nat} {v : Value} (hv : vs[i]? = some v) : Sx.cell h b (ba + i) = some v := by
  refine cellW c.wide ?_
  have hi := (List.getElem?_eq_some_iff.1 hv).1
  rw [← c.pl, List.getElem?_append_right (by omega)]
  have : pre.length + i - pre.length = i := by omega
  rw [this, List.getElem?_append_left hi]
  exact hv

/-- What is read. -/
theorem CellsAt.part {b ba cp g : Nat} {w : Bool} {l : List AV} {vs pre tail : List Value} (c : CellsAt ρ h b ba cp w g l vs pre tail) {o n : Nat} {r : List AV} (hr : taken (dropped l o) n = some r) :
    ∃ us, concs ρ r = some us ∧ us.length = n ∧ Cells h b (ba + o) us := by
  rw [dropped_eq] at hr
  obtain ⟨h1, h2⟩ := taken_eq hr
  subst h2
  have hlen := concs_len c.cs
  refine ⟨(vs.drop o).take n, concs_take n (concs_drop o c.cs), by simp at h1 ⊢; omega, fun i v hv => ?_⟩
  have hi := (List.getElem?_eq_some_iff.1 hv).1
  simp at hi
  rw [List.getElem?_take_of_lt (by omega), List.getElem?_drop] at hv
  have := c.cell hv
  rw [Nat.add_assoc]; exact this
theorem CellsAt.at {b ba cp g : Nat} {w : Bool} {l : List AV} {vs pre tail : List Value} (c : CellsAt ρ h b ba cp w g l vs pre tail) {o : Nat} {x : AV} (hx : nth l o = some x) : ∃ v, conc ρ x = some v ∧ Sx.cell h b (ba + o) = some v := by
  rw [nth_eq] at hx
  obtain ⟨v, h1, h2⟩ := concs_get c.cs hx
  exact ⟨v, h2, c.cell h1⟩

theorem splice_pre (pre : List Value) (l : List Value) (o : Nat) (us : List Value) : splice (pre ++ l) (pre.length + o) us = pre ++ splice l o us := by
  induction pre with
  | nil => simp
  | cons x pre ih =>
    cases us with
    | nil => rw [splice_nil, splice_nil]
    | cons u us =>
      have : (x :: pre).length + o = (pre.length + o) + 1 := by simp; omega
      rw [this, List.cons_append, List.cons_append, splice, ih]
theorem splice_tail : ∀ (l tail : List Value) (o : Nat) (us : List Value), o + us.length ≤ l.length → splice (l ++ tail) o us = splice l o us ++ tail
  | l, tail, o, [], _ => by rw [splice_nil, splice_nil]
  | [], tail, o, u :: us, h => by simp at h
  | x :: l, tail, 0, u :: us, h => by
    simp only [List.cons_append, splice]
    rw [splice_tail l tail 0 us (by simp at h ⊢; omega)]
  | x :: l, tail, o + 1, u :: us, h => by
    simp only [List.cons_append, splice]
    rw [splice_tail l tail o (u :: us) (by simp at h ⊢; omega)]

/-- What is written. -/
theorem Rep.wrote (hR : Rep F h0 ρ H h) {a b ba cp g o : Nat} {w : Bool} {l us : List AV} {vs pre tail uvs : List Value} (hg : getB H a = some (w, g, l)) (hp : ρ.pl a = some (b, ba, cp)) (c : CellsAt ρ h b ba cp w g l vs pre tail)
    (hu : concs ρ us = some uvs) {w2 : Bool} (hs : setB H a w2 g l o us = some H') :
    ba + o + uvs.length ≤ (pre ++ (vs ++ tail)).length ∧ (∀ h', (w2 = false → Put h h' b (splice (pre ++ (vs ++ tail)) (ba + o) uvs)) → PutW h h' b (splice (pre ++ (vs ++ tail)) (ba + o) uvs) → Rep F h0 ρ H' h') := by
  unfold setB at hs
  cases hb : Nat.ble (o + countA us) (countA l) with
  | false => rw [hb] at hs; simp at hs
  | true =>
    rw [hb] at hs
    simp only [cond_true] at hs
    have hle := Nat.le_of_ble_eq_true hb
    rw [countA_eq, countA_eq] at hle
    have hlu := concs_len hu
    have hlv := concs_len c.cs
    have hsp : splice (pre ++ (vs ++ tail)) (ba + o) uvs = pre ++ (splice vs o uvs ++ tail) := by
      rw [← c.pl, splice_pre, splice_tail vs tail o uvs (by omega)]
    refine ⟨by simp [c.pl]; omega, fun h' hP hPW => ?_⟩
    refine hR.set (getB_get hg) (by simp) hp hs hPW.size (fun k hk => hPW.old k hk) fun _ => ?_
    refine ⟨splice vs o uvs, pre, tail, concs_splice o c.cs hu, c.pl, ?_, ?_, fun hz => ⟨(c.tag hz).1, hPW.ty _ (c.tag hz).2.1, (c.tag hz).2.2⟩⟩
    · rw [splice_len]; exact c.gz
    · cases w2 with
      | true =>
        show BlkW h' b _
        rw [← hsp]; exact hPW.blk
      | false =>
        show Blk h' b _
        rw [← hsp]; exact (hP rfl).blk

theorem Put.w {b : Nat} {l : List Value} (hP : Put h h' b l) : PutW h h' b l := ⟨Blk.w hP.blk, hP.size, hP.old, hP.ty⟩

/-- What a slice holds. -/
theorem readS_sound (hR : Rep F h0 ρ H h) {v : AV} {u : Value} {n size : Nat} {r : List AV} (hv : conc ρ v = some u) (hr : readS H v n size = some r) :
    ∃ a m c us, u = .slice a m c ∧ concs ρ r = some us ∧ us.length = n * size ∧ Src h a n us ∧ (∀ b o s, a = some ⟨b, o, s⟩ → s = none) := by
  unfold readS at hr
  split at hr
  · simp [conc] at hv; subst hv
    cases hb : Nat.beq n 0 with
    | false => rw [hb] at hr; simp at hr
    | true =>
      rw [hb] at hr
      simp at hr; subst hr
      have h0 := Nat.eq_of_beq_eq_true hb
      exact ⟨none, 0, 0, [], rfl, rfl, by simp [h0], h0, by simp⟩
  · rename_i a o m c
    split at hr
    · rename_i w g l hg
      simp only [conc] at hv
      split at hv
      · rename_i b ba cp hp
        simp at hv; subst hv
        obtain ⟨vs, pre, tail, hc⟩ := hR.cells hg hp
        obtain ⟨us, h1, h2, h3⟩ := hc.part hr
        exact ⟨_, m, c, us, rfl, h1, h2, h3, by simp⟩
      · simp at hv
    · simp at hr
  · rename_i a o m k
    split at hr
    · rename_i w g l hg
      simp only [conc] at hv
      split at hv
      · rename_i b ba cp hp
        split at hv
        · simp at hv; subst hv
          obtain ⟨vs, pre, tail, hc⟩ := hR.cells hg hp
          obtain ⟨us, h1, h2, h3⟩ := hc.part hr
          exact ⟨_, m, _, us, rfl, h1, h2, h3, by simp⟩
        · simp at hv
      · simp at hv
    · simp at hr
  · simp at hr

theorem alen_sound {v : AV} {u : Value} {n : Nat} (hv : conc ρ v = some u) (hn : alen v = some n) : ∃ a c, u = .slice a n c := by
  unfold alen at hn
  split at hn
  · simp [conc] at hv; simp at hn; subst hn; subst hv; exact ⟨_, _, rfl⟩
  · simp at hn; subst hn
    simp only [conc] at hv
    split at hv
    · simp at hv; exact ⟨_, _, hv.symm⟩
    · simp at hv
  · simp at hn; subst hn
    simp only [conc] at hv
    split at hv
    · split at hv
      · simp at hv; exact ⟨_, _, hv.symm⟩
      · simp at hv
    · simp at hv
  · simp at hn

theorem byteCells_conc (l : List UInt8) : concs ρ (abyteCells l) = some (byteCells ⟨⟨l⟩⟩) := by
  unfold abyteCells byteCells
  induction l with
  | nil => rfl
  | cons b l ih =>
    simp only [List.map_cons, concs, conc]
    simp only at ih
    rw [ih]
    rfl

theorem readB_sound (hR : Rep F h0 ρ H h) {v : AV} {u : Value} {n : Nat} {r : List AV} (hv : conc ρ v = some u) (hr : readB H v n = some r) : ∃ us, concs ρ r = some us ∧ us.length = n ∧ SrcB h u n us := by
  unfold readB at hr
  split at hr
  · rename_i l
    simp [conc] at hv; subst hv
    obtain ⟨h1, h2⟩ := taken_eq hr
    subst h2
    have hl : (abyteCells l).length = l.length := by simp [abyteCells]
    have hl2 : (byteCells ⟨⟨l⟩⟩).length = l.length := by simp [byteCells]
    refine ⟨(byteCells ⟨⟨l⟩⟩).take n, concs_take n (byteCells_conc l), by simp [hl2]; omega, rfl, ?_⟩
    show n ≤ l.length
    omega
  · obtain ⟨a, m, c, us, rfl, h1, h2, h3, _⟩ := readS_sound hR hv hr
    exact ⟨us, h1, by omega, by omega, h3⟩

theorem alenB_sound {v : AV} {u : Value} {n : Nat} (hv : conc ρ v = some u) (hn : alenB v = some n) : lenB u = some n := by
  unfold alenB at hn
  split at hn
  · rename_i l
    simp [conc] at hv; subst hv
    simp [countA_eq] at hn; subst hn
    rfl
  · obtain ⟨a, c, rfl⟩ := alen_sound hv hn
    rfl

end
end Go.Sx
