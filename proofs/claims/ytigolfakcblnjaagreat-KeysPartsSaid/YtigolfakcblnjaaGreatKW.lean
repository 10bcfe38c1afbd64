/-
  Layer 7: vast, sorted; the reference's Of and Names.
-/
import Derived.Test.YtigolfakcblnjaaGreatKV
namespace Go.Proofs.YtigolfakcblnjaaGreat
open Go Go.Sx Go.Proofs.YtigolfakcblnjaaGreat.C

/-- An effect. -/
structure Eff where
  op : Int
  key : ByteArray
  name : ByteArray
  text : ByteArray
  num : Int

def encD (e : Eff) : List Value := [.int .i64 e.op, .string e.key, .string e.name, .string e.text, .int .i64 e.num]
theorem encD_len (e : Eff) : (encD e).length = 5 := rfl
theorem encD_one (e : Eff) : ∀ u ∈ encD e, u.oneCell' = true := by
  intro u hu
  simp only [encD, List.mem_cons, List.not_mem_nil, or_false] at hu
  rcases hu with rfl | rfl | rfl | rfl | rfl <;> rfl

/-- Few and short effects. -/
structure DSmall (d : List Eff) : Prop where
  len : d.length ≤ 60
  each : ∀ e ∈ d, e.key.size ≤ 300 ∧ e.name.size ≤ 300 ∧ e.text.size ≤ 300

/-- Things and keys of a length that the walks can count. -/
structure XFit (l : List RX) : Prop where
  len : l.length < 4611686018427387904
  keys : ∀ x ∈ l, x.key.size < 4611686018427387904
  fits : ∀ x ∈ l, Fits x.thing
  sized : ∀ x ∈ l, Sized x.thing

structure DFit (d : List Eff) : Prop where
  len : d.length < 4611686018427387904
  each : ∀ e ∈ d, e.key.size < 4611686018427387904 ∧ e.name.size < 4611686018427387904 ∧ e.text.size < 4611686018427387904

theorem vast_calls {h : Heap} {v u : Value} {l : List RX} {d : List Eff} (hv : SL encX h v l) (hu : SL encD h u d) (g : GX h l) (f : XFit l) (fd : DFit d) :
    CallsH Tryz.prog 4 [v, u] h (Ret fun r h' => (∃ b, r = .bool b ∧ (b = false → NVast l ∧ DSmall d)) ∧ Chg [] h h') := by
  have fl := f.len
  have fdl := fd.len
  obtain ⟨a, c, rfl, hlc⟩ := hv.form
  obtain ⟨a', c', rfl, hlc'⟩ := hu.form
  have yes : ∀ h', Chg [] h h' → Ret (fun r h' => (∃ b, r = .bool b ∧ (b = false → NVast l ∧ DSmall d)) ∧ Chg [] h h') (.returned (retV [Value.bool true])) h' := fun h' hc => ⟨⟨true, rfl, fun h => by cases h⟩, hc⟩
  refine f4_calls (by simp) ?_
  refine And.intro rfl (And.intro (fun _ => yes h (Chg.refl h)) (fun n1 => ?_))
  refine And.intro rfl (And.intro (fun _ => yes h (Chg.refl h)) (fun n2 => ?_))
  refine loop_intro (fun k : Nat => [(0, .slice a l.length c), (1, .slice a' d.length c'), (5, .int .i64 k)]) (fun k h' => k ≤ l.length ∧ Chg [] h h' ∧ ∀ x ∈ l.take k, x.key.size ≤ 300 ∧ Small x.thing) (fun k => l.length - k) 0
    ⟨rfl, rfl, rfl, trivial⟩ ⟨Nat.zero_le _, Chg.refl h, by simp⟩ ?_
  rintro k h1 ⟨hk, hc1, hall⟩
  have hv1 := hv.ext hc1
  refine And.intro rfl (And.intro (fun ht => ?_) (fun ht => ?_))
  · have hlt : k < l.length := by omega
    obtain ⟨b, o, rfl⟩ := hv1.addr (by omega)
    have hcs := hv1.cells encX_len (i := k) (x := l[k]) (by simp [hlt])
    have hmem : l[k] ∈ l := List.getElem_mem hlt
    have hkz := f.keys _ hmem
    refine And.intro (by omega) (And.intro (by omega) (Exists.intro _ (And.intro (hcs 0 _ rfl) ?_)))
    refine And.intro rfl (And.intro (fun _ => yes h1 hc1) (fun n3 => ?_))
    refine And.intro (by omega) (And.intro (by omega) (Exists.intro l[k].vs (And.intro l[k].len (And.intro (cells_vs hcs) ?_))))
    refine call_ret (large_calls ((g.ext hc1) _ hmem) (f.fits _ hmem) (f.sized _ hmem)) ?_
    rintro _ h2 ⟨⟨b2, rfl, hsm⟩, hc2⟩
    cases b2 with
    | true => exact yes h2 (hc1.nil hc2)
    | false =>
      refine And.intro rfl (fun z hz => ?_)
      have hz := add_in hz (by omega) (by omega)
      subst hz
      refine And.intro rfl (Exists.intro (k + 1) (And.intro ?_ (And.intro ?_ ?_)))
      · exact ⟨rfl, rfl, rfl, trivial⟩
      · refine ⟨by omega, hc1.nil hc2, fun x hx => ?_⟩
        rw [take_snoc l k hlt, List.mem_append, List.mem_singleton] at hx
        rcases hx with hx | rfl
        · exact hall x hx
        · exact ⟨by omega, hsm rfl⟩
      · omega
  have hkl : k = l.length := by omega
  rw [hkl, List.take_length] at hall
  clear hkl ht hk hv1
  have nv : NVast l := ⟨by omega, fun x hx => (hall x hx).1, fun x hx => (hall x hx).2⟩
  refine loop_intro (fun k : Nat => [(1, .slice a' d.length c'), (6, .int .i64 k)]) (fun k h' => k ≤ d.length ∧ Chg [] h h' ∧ ∀ e ∈ d.take k, e.key.size ≤ 300 ∧ e.name.size ≤ 300 ∧ e.text.size ≤ 300) (fun k => d.length - k) 0
    ⟨rfl, rfl, trivial⟩ ⟨Nat.zero_le _, hc1, by simp⟩ ?_
  clear k hc1
  rintro k h1 ⟨hk, hc1, hall⟩
  have hu1 := hu.ext hc1
  refine And.intro rfl (And.intro (fun ht => ?_) (fun ht => ?_))
  · have hlt : k < d.length := by omega
    obtain ⟨b, o, rfl⟩ := hu1.addr (by omega)
    have hcs := hu1.cells encD_len (i := k) (x := d[k]) (by simp [hlt])
    obtain ⟨z1, z2, z3⟩ := fd.each _ (List.getElem_mem hlt)
    refine And.intro (by omega) (And.intro (by omega) (Exists.intro _ (And.intro (hcs 1 _ rfl) ?_)))
    refine And.intro rfl (And.intro (fun _ => yes h1 hc1) (fun n3 => ?_))
    refine And.intro (by omega) (And.intro (by omega) (Exists.intro _ (And.intro (hcs 2 _ rfl) ?_)))
    refine And.intro rfl (And.intro (fun _ => yes h1 hc1) (fun n4 => ?_))
    refine And.intro (by omega) (And.intro (by omega) (Exists.intro _ (And.intro (hcs 3 _ rfl) ?_)))
    refine And.intro rfl (And.intro (fun _ => yes h1 hc1) (fun n5 => ?_))
    refine And.intro rfl (fun z hz => ?_)
    have hz := add_in hz (by omega) (by omega)
    subst hz
    refine And.intro rfl (Exists.intro (k + 1) (And.intro ?_ (And.intro ?_ ?_)))
    · exact ⟨rfl, rfl, trivial⟩
    · refine ⟨by omega, hc1, fun x hx => ?_⟩
      rw [take_snoc d k hlt, List.mem_append, List.mem_singleton] at hx
      rcases hx with hx | rfl
      · exact hall x hx
      · exact ⟨by omega, by omega, by omega⟩
    · omega
  have hkl : k = d.length := by omega
  rw [hkl, List.take_length] at hall
  exact ⟨⟨false, rfl, fun _ => ⟨nv, by omega, hall⟩⟩, hc1⟩

theorem foldl_len : ∀ (l acc : List RX), (l.foldl putX acc).length ≤ acc.length + l.length
  | [], acc => by simp
  | x :: l, acc => by
    have := foldl_len l (putX acc x)
    have := putX_len acc x
    simp only [List.foldl_cons, List.length_cons]
    omega

theorem ofX_eq : ∀ {r acc k : List RX}, ofX acc r = some k → k = r.foldl putX acc
  | [], acc, k, h => by simp only [ofX, Option.some.injEq] at h; exact h.symm
  | x :: r, acc, k, h => by
    simp only [ofX] at h
    split at h
    · cases h
    · have := ofX_eq (r := r) (acc := putX acc x) (k := k) h
      exact this

theorem foldl_mem {y : RX} : ∀ {l acc : List RX}, y ∈ l.foldl putX acc → y ∈ acc ∨ y ∈ l
  | [], acc, h => .inl h
  | x :: l, acc, h => by
    rcases foldl_mem (l := l) h with h | h
    · unfold putX at h
      rcases List.mem_append.1 h with h | h
      · rcases List.mem_append.1 h with h | h
        · exact .inl (List.mem_of_mem_take h)
        · exact .inr (by simp at h; simp [h])
      · exact .inl (List.mem_of_mem_drop h)
    · exact .inr (List.mem_cons_of_mem _ h)

/-- What the reference's Of gives. -/
def OfR (h : Heap) (l : List RX) (r : Value) (h' : Heap) : Prop := Chg [] h h' ∧ match ofX [] l with
  | none => r = .tuple #[.slice none 0 0, .int .i64 2]
  | some k => ∃ u, r = .tuple #[u, .int .i64 0] ∧ OL encX 8 h' u k ∧ ∀ b ∈ vblk u, h.size ≤ b

theorem ofR_bad {h h' : Heap} {l : List RX} (hc : Chg [] h h') (hn : ofX [] l = none) : OfR h l (.tuple #[.slice none 0 0, .int .i64 2]) h' := by
  refine ⟨hc, ?_⟩
  rw [hn]

end Go.Proofs.YtigolfakcblnjaaGreat
