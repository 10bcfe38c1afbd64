/-
  Layer 7: each name once; what is large.
-/
import Derived.Test.YtigolfakcblnjaaGreatKE
namespace Go.Proofs.YtigolfakcblnjaaGreat
open Go Go.Sx Go.Proofs.YtigolfakcblnjaaGreat.C

theorem mfind_none {k : Kd} {a : Value} (ha : fits k a = true) : ∀ (es : List MapEntry) (i : Nat), (∀ e ∈ es, fits k e.key = true) → mfind a es i = none → ∀ e ∈ es, e.key ≠ a
  | [], _, _, _, e, he => by simp at he
  | x :: es, i, hf, h, e, he => by
    simp only [mfind] at h
    split at h
    · simp at h
    · rename_i hs
      rcases List.mem_cons.1 he with rfl | he
      · intro e; exact hs (by rw [e]; exact sameBits_refl ha)
      · exact mfind_none ha es (i + 1) (fun y hy => hf y (by simp [hy])) h e he

theorem modify_keys (f : MapEntry → MapEntry) (hf : ∀ e, (f e).key = e.key) : ∀ (es : List MapEntry) (i : Nat), (es.modify i f).map (·.key) = es.map (·.key)
  | [], i => by simp
  | e :: es, 0 => by simp [hf]
  | e :: es, i + 1 => by simp [modify_keys f hf es i]

theorem mem_modify {f : MapEntry → MapEntry} : ∀ {es : List MapEntry} {i : Nat} {e : MapEntry}, e ∈ es.modify i f → e ∈ es ∨ ∃ x ∈ es, e = f x
  | [], i, e, h => by simp at h
  | x :: es, 0, e, h => by
    simp at h
    rcases h with rfl | h
    · exact .inr ⟨x, by simp, rfl⟩
    · exact .inl (by simp [h])
  | x :: es, i + 1, e, h => by
    simp at h
    rcases h with rfl | h
    · exact .inl (by simp)
    · rcases mem_modify h with h | ⟨y, hy, rfl⟩
      · exact .inl (by simp [h])
      · exact .inr ⟨y, by simp [hy], rfl⟩

/-- The names that are counted. -/
structure Seen (h : Heap) (mb : Nat) (m : List ByteArray) : Prop where
  ex : ∃ (es : List MapEntry) (c : Nat) (ks : List ByteArray), MapB h mb es c ∧ es.map (·.key) = ks.map Value.string ∧ (∀ n, n ∈ ks ↔ n ∈ m) ∧ (ks.length = m.length ↔ m.Nodup) ∧ ks.length ≤ m.length ∧ ∀ e ∈ es, ∃ z, e.val = .int .i64 z

theorem nodup_snoc {m : List ByteArray} {n : ByteArray} : (m ++ [n]).Nodup ↔ m.Nodup ∧ n ∉ m := by
  rw [List.nodup_append]
  constructor
  · rintro ⟨h1, _, h3⟩
    exact ⟨h1, fun hm => h3 n hm n (by simp) rfl⟩
  · rintro ⟨h1, h2⟩
    refine ⟨h1, by simp, fun a ha b hb => ?_⟩
    have : b = n := by simpa using hb
    rw [this]; rintro rfl; exact h2 ha

def onceR (l : List Rank) : Bool := decide (l.map Rank.name).Nodup

theorem once_calls {h : Heap} {v : Value} {l : List Rank} (hv : SL encR h v l) (hl : l.length < 4611686018427387904) :
    CallsH Tryz.prog 32 [v] h (Ret fun r h' => r = .bool (onceR l) ∧ Chg [] h h') := by
  obtain ⟨a, c, rfl, hlc⟩ := hv.form
  refine f32_calls (by simp) ?_
  intro mb h1 g1
  have hm0 : Seen h1 mb [] := ⟨[], 0, [], g1.blk, rfl, by simp, by simp, by simp, by simp⟩
  have hmb : h.size ≤ mb := by rw [g1.id]; exact Nat.le_refl _
  refine loop_intro (fun k : Nat => [(0, .slice a l.length c), (3, .map (some mb)), (7, .slice a l.length c), (8, .int .i64 l.length), (9, .int .i64 k)]) (fun k h' => k ≤ l.length ∧ Chg [] h h' ∧ Seen h' mb ((l.take k).map Rank.name)) (fun k => l.length - k) 0
    ⟨rfl, rfl, rfl, rfl, rfl, trivial⟩ ⟨Nat.zero_le _, g1.chg, hm0⟩ ?_
  rintro k h2 ⟨hk, hc2, hs⟩
  refine And.intro rfl (And.intro (fun hlt => ?_) (fun hlt => ?_))
  · have hkk : k < l.length := by omega
    obtain ⟨b, o, rfl⟩ := hv.addr (by omega)
    have hcs := (hv.ext hc2).cells encR_len (i := k) (x := l[k]) (by simp [hkk])
    refine And.intro (by omega) (And.intro (by omega) (Exists.intro (encR l[k]) (And.intro rfl (And.intro hcs ?_))))
    intro b3 h3 g3
    refine Exists.intro _ (And.intro g3.blk (And.intro (by decide) (And.intro rfl (And.intro (encR_one _) ?_))))
    intro h4 p4
    have g4 := g3.put p4
    have B4 : Blk h4 b3 (encR l[k]) := g4.blk
    obtain ⟨es, cl, ks, hmap, hkeys, hmem, hnd, hle, hvals⟩ := hs.ex
    have hmap4 : MapB h4 mb es cl := hmap.chg g4.chg (by simp)
    have hfits : ∀ e ∈ es, fits .str e.key = true := by
      intro e he
      have : e.key ∈ es.map (·.key) := List.mem_map.2 ⟨e, he, rfl⟩
      rw [hkeys] at this
      obtain ⟨n, _, hn⟩ := List.mem_map.1 this
      rw [← hn]; rfl
    refine Exists.intro _ (And.intro (cell_blk B4 rfl) ?_)
    refine And.intro rfl (Exists.intro es (Exists.intro cl (And.intro hmap4 (And.intro hfits ?_))))
    have htk : (l.take (k + 1)).map Rank.name = (l.take k).map Rank.name ++ [l[k].name] := by rw [take_snoc l k hkk, List.map_append]; rfl
    have hc4 := hc2.nil g4.chg
    cases hmf : mfind (.string l[k].name) es 0 with
    | none =>
      have hnot := mfind_none (k := .str) rfl es 0 hfits hmf
      have hnk : l[k].name ∉ ks := by
        intro hm
        have : Value.string l[k].name ∈ es.map (·.key) := by rw [hkeys]; exact List.mem_map.2 ⟨_, hm, rfl⟩
        obtain ⟨e, he, hek⟩ := List.mem_map.1 this
        exact hnot e he hek
      refine And.intro rfl (fun z hz => ?_)
      refine And.intro rfl (Exists.intro es (Exists.intro cl (And.intro hmap4 (And.intro hfits ?_))))
      rw [hmf]
      intro h5 p5
      refine And.intro rfl (fun y hy => ?_)
      have hy := add_in hy (by omega) (by omega)
      subst hy
      refine And.intro rfl (Exists.intro (k + 1) (And.intro ?_ (And.intro ?_ ?_)))
      · exact ⟨rfl, rfl, rfl, rfl, rfl, trivial⟩
      · refine ⟨by omega, hc4.fresh p5.chg (by simp; exact hmb), ⟨_, _, ks ++ [l[k].name], p5.blk, by rw [List.map_append, List.map_append, hkeys]; rfl, ?_, ?_, ?_, ?_⟩⟩
        · intro n; rw [htk]; simp [hmem n]
        · have hnk' : l[k].name ∉ (l.take k).map Rank.name := fun h => hnk ((hmem _).2 h)
          rw [htk, nodup_snoc]
          simp only [List.length_append, List.length_cons, List.length_nil]
          constructor
          · intro h; exact ⟨hnd.1 (by omega), hnk'⟩
          · rintro ⟨h, _⟩; have := hnd.2 h; omega
        · rw [htk]; simp only [List.length_append, List.length_cons, List.length_nil]; omega
        · intro e he
          rcases List.mem_append.1 he with he | he
          · exact hvals e he
          · have : e = { key := .string l[k].name, val := .int .i64 z, born := cl } := by simpa using he
            rw [this]; exact ⟨z, rfl⟩
      · omega
    | some p =>
      obtain ⟨i, w⟩ := p
      obtain ⟨_, e0, he0, hek, hev⟩ := mfind_spec (k := .str) rfl es 0 i w hfits hmf
      have hem : e0 ∈ es := List.mem_of_getElem? he0
      obtain ⟨zz, hzz⟩ := hvals e0 hem
      rw [hzz] at hev
      subst hev
      have hin : l[k].name ∈ ks := by
        have : Value.string l[k].name ∈ es.map (·.key) := List.mem_map.2 ⟨e0, hem, hek⟩
        rw [hkeys] at this
        obtain ⟨n, hn, hne⟩ := List.mem_map.1 this
        cases hne; exact hn
      refine And.intro rfl (fun z hz => ?_)
      refine And.intro rfl (Exists.intro es (Exists.intro cl (And.intro hmap4 (And.intro hfits ?_))))
      rw [hmf]
      intro h5 p5
      refine And.intro rfl (fun y hy => ?_)
      have hy := add_in hy (by omega) (by omega)
      subst hy
      refine And.intro rfl (Exists.intro (k + 1) (And.intro ?_ (And.intro ?_ ?_)))
      · exact ⟨rfl, rfl, rfl, rfl, rfl, trivial⟩
      · refine ⟨by omega, hc4.fresh p5.chg (by simp; exact hmb), ⟨_, _, ks, p5.blk, by rw [modify_keys (fun e => { e with val := .int .i64 z }) (fun _ => rfl)]; exact hkeys, ?_, ?_, ?_, ?_⟩⟩
        · intro n; rw [htk]; simp only [List.mem_append, List.mem_singleton, hmem n]
          constructor
          · exact .inl
          · rintro (h | rfl)
            · exact h
            · exact (hmem _).1 hin
        · rw [htk, nodup_snoc]
          simp only [List.length_append, List.length_cons, List.length_nil]
          constructor
          · intro h; omega
          · rintro ⟨_, h⟩; exact absurd ((hmem _).1 hin) h
        · rw [htk]; simp only [List.length_append, List.length_cons, List.length_nil]; omega
        · intro e he
          rcases mem_modify he with he | ⟨x, _, rfl⟩
          · exact hvals e he
          · exact ⟨_, rfl⟩
      · omega
  · have hkl : k = l.length := by omega
    rw [hkl, List.take_length] at hs
    obtain ⟨es, cl, ks, hmap, hkeys, hmem, hnd, hle, hvals⟩ := hs.ex
    have hel : es.length = ks.length := by
      have := congrArg List.length hkeys
      simpa using this
    simp only [List.length_map] at hnd
    refine Exists.intro es (Exists.intro cl (And.intro hmap ?_))
    refine And.intro rfl (And.intro (fun he => ?_) (fun he => ?_))
    · exact And.intro (by rw [onceR, decide_eq_true (hnd.1 (by omega))]; rfl) hc2
    · exact And.intro (by rw [onceR, decide_eq_false (fun h => he (by have := hnd.2 h; omega))]; rfl) hc2

/-! ### What is large -/
structure Small (t : Thing) : Prop where
  p : t.pairs.length ≤ 40
  l : t.list.length ≤ 40
  r : t.ranks.length ≤ 40
  text : t.text.size ≤ 2000
  ps : ∀ x ∈ t.pairs, x.name.size ≤ 2000 ∧ x.text.size ≤ 2000
  ls : ∀ x ∈ t.list, x.size ≤ 2000
  rs : ∀ x ∈ t.ranks, x.name.size ≤ 2000

structure Sized (t : Thing) : Prop where
  text : t.text.size < 1000000000000000000
  ps : ∀ x ∈ t.pairs, x.name.size < 1000000000000000000 ∧ x.text.size < 1000000000000000000
  ls : ∀ x ∈ t.list, x.size < 1000000000000000000
  rs : ∀ x ∈ t.ranks, x.name.size < 1000000000000000000

theorem Small.lens {t : Thing} (s : Small t) : Lens t := ⟨by have := s.p; omega, by have := s.l; omega, by have := s.r; omega⟩

theorem large_calls {h : Heap} {vs : List Value} {t : Thing} (x : TH h vs t) (f : Fits t) (s : Sized t) :
    CallsH Tryz.prog 10 [.agg ⟨vs⟩] h (Ret fun r h' => (∃ b, r = .bool b ∧ (b = false → Small t)) ∧ Chg [] h h') := by
  have fp := f.p; have fl := f.l; have fr := f.r
  refine f10_calls (by simp) ?_
  intro b1 h1 g1
  have B1 : Blk h1 b1 vs := g1.blk
  have hc := g1.chg
  obtain ⟨pv, lv, rv, rfl, hp, hl, hr⟩ := x.ext hc
  obtain ⟨pa, pc, rfl, _⟩ := hp.form
  obtain ⟨la, lc, rfl, _⟩ := hl.form
  obtain ⟨ra, rc, rfl, _⟩ := hr.form
  have yes : Ret (fun r h' => (∃ b, r = .bool b ∧ (b = false → Small t)) ∧ Chg [] h h') (.returned (retV [Value.bool true])) h1 := ⟨⟨true, rfl, fun h => by cases h⟩, hc⟩
  refine Exists.intro _ (And.intro (cell_blk B1 rfl) ?_)
  refine Exists.intro _ (And.intro (cell_blk B1 rfl) ?_)
  refine And.intro rfl (And.intro (fun _ => yes) (fun n1 => ?_))
  refine Exists.intro _ (And.intro (cell_blk B1 rfl) ?_)
  refine And.intro rfl (And.intro (fun _ => yes) (fun n2 => ?_))
  refine Exists.intro _ (And.intro (cell_blk B1 rfl) ?_)
  refine And.intro rfl (And.intro (fun _ => yes) (fun n3 => ?_))
  refine And.intro rfl (And.intro (fun _ => yes) (fun n4 => ?_))
  have ht := s.text
  -- the pairs
  refine loop_intro (fun i : Nat × Int => [(1, .pointer (some ⟨b1, 0, none⟩)), (3, .int .i64 i.2), (4, .int .i64 i.1)]) (fun i h' => i.1 ≤ t.pairs.length ∧ h' = h1 ∧ 0 ≤ i.2 ∧ i.2 ≤ 2000 ∧ ∀ x ∈ t.pairs.take i.1, x.name.size ≤ 2000 ∧ x.text.size ≤ 2000) (fun i => t.pairs.length - i.1) (0, t.text.size)
    ⟨rfl, rfl, rfl, trivial⟩ ⟨Nat.zero_le _, rfl, by simp only; omega, by simp only; omega, by simp⟩ ?_
  rintro ⟨k, n⟩ h3 ⟨hk, h32, hn0, hn1, hps⟩
  have h32 := h32.symm
  subst h32
  simp only at hk hn0 hn1 hps
  refine Exists.intro _ (And.intro (cell_blk B1 rfl) ?_)
  refine And.intro rfl (And.intro (fun hlt => ?_) (fun hlt => ?_))
  · have hkk : k < t.pairs.length := by omega
    obtain ⟨b3, o, rfl⟩ := hp.addr (by omega)
    have hcs := hp.cells encP_len (i := k) (x := t.pairs[k]) (by simp [hkk])
    obtain ⟨z1, z2⟩ := s.ps t.pairs[k] (List.getElem_mem hkk)
    refine Exists.intro _ (And.intro (cell_blk B1 rfl) ?_)
    refine And.intro (by omega) (And.intro (by omega) (Exists.intro _ (And.intro (hcs 0 _ rfl) ?_)))
    refine And.intro rfl (fun y hy => ?_)
    have hy := add_in hy (by omega) (by omega)
    refine Exists.intro _ (And.intro (cell_blk B1 rfl) ?_)
    refine And.intro (by omega) (And.intro (by omega) (Exists.intro _ (And.intro (hcs 1 _ rfl) ?_)))
    refine And.intro rfl (fun w hw => ?_)
    have hw := add_in hw (by omega) (by omega)
    refine And.intro rfl (And.intro (fun _ => yes) (fun n5 => ?_))
    refine And.intro rfl (fun z hz => ?_)
    have hz := add_in hz (by omega) (by omega)
    subst hz
    refine And.intro rfl (Exists.intro (k + 1, w) (And.intro ?_ (And.intro ?_ ?_)))
    · exact ⟨rfl, rfl, rfl, trivial⟩
    · refine ⟨by simp only; omega, rfl, by simp only; omega, by simp only; omega, fun q hq => ?_⟩
      simp only at hq
      rw [take_snoc t.pairs k hkk] at hq
      rcases List.mem_append.1 hq with hq | hq
      · exact hps q hq
      · have : q = t.pairs[k] := by simpa using hq
        rw [this]; omega
    · simp only; omega
  have hkl : k = t.pairs.length := by omega
  rw [hkl, List.take_length] at hps
  clear hlt hkl hk
  -- the list
  refine loop_intro (fun i : Nat × Int => [(1, .pointer (some ⟨b1, 0, none⟩)), (3, .int .i64 i.2), (5, .int .i64 i.1)]) (fun i h' => i.1 ≤ t.list.length ∧ h' = h1 ∧ 0 ≤ i.2 ∧ i.2 ≤ 2000 ∧ ∀ x ∈ t.list.take i.1, x.size ≤ 2000) (fun i => t.list.length - i.1) (0, n)
    ⟨rfl, rfl, rfl, trivial⟩ ⟨Nat.zero_le _, rfl, by simp only; omega, by simp only; omega, by simp⟩ ?_
  clear hn0 hn1
  rintro ⟨k, n⟩ h3 ⟨hk, h32, hn0, hn1, hls⟩
  have h32 := h32.symm
  subst h32
  simp only at hk hn0 hn1 hls
  refine Exists.intro _ (And.intro (cell_blk B1 rfl) ?_)
  refine And.intro rfl (And.intro (fun hlt => ?_) (fun hlt => ?_))
  · have hkk : k < t.list.length := by omega
    obtain ⟨b3, o, rfl⟩ := hl.addr (by omega)
    have hcs := hl.cells encS_len (i := k) (x := t.list[k]) (by simp [hkk])
    have z1 := s.ls t.list[k] (List.getElem_mem hkk)
    refine Exists.intro _ (And.intro (cell_blk B1 rfl) ?_)
    refine And.intro (by omega) (And.intro (by omega) (Exists.intro _ (And.intro (hcs 0 _ rfl) ?_)))
    refine And.intro rfl (fun w hw => ?_)
    have hw := add_in hw (by omega) (by omega)
    refine And.intro rfl (And.intro (fun _ => yes) (fun n5 => ?_))
    refine And.intro rfl (fun z hz => ?_)
    have hz := add_in hz (by omega) (by omega)
    subst hz
    refine And.intro rfl (Exists.intro (k + 1, w) (And.intro ?_ (And.intro ?_ ?_)))
    · exact ⟨rfl, rfl, rfl, trivial⟩
    · refine ⟨by simp only; omega, rfl, by simp only; omega, by simp only; omega, fun q hq => ?_⟩
      simp only at hq
      rw [take_snoc t.list k hkk] at hq
      rcases List.mem_append.1 hq with hq | hq
      · exact hls q hq
      · have : q = t.list[k] := by simpa using hq
        rw [this]; omega
    · simp only; omega
  have hkl : k = t.list.length := by omega
  rw [hkl, List.take_length] at hls
  clear hlt hkl hk
  -- the ranks
  refine loop_intro (fun i : Nat × Int => [(1, .pointer (some ⟨b1, 0, none⟩)), (3, .int .i64 i.2), (6, .int .i64 i.1)]) (fun i h' => i.1 ≤ t.ranks.length ∧ h' = h1 ∧ 0 ≤ i.2 ∧ i.2 ≤ 2000 ∧ ∀ x ∈ t.ranks.take i.1, x.name.size ≤ 2000) (fun i => t.ranks.length - i.1) (0, n)
    ⟨rfl, rfl, rfl, trivial⟩ ⟨Nat.zero_le _, rfl, by simp only; omega, by simp only; omega, by simp⟩ ?_
  clear hn0 hn1
  rintro ⟨k, n⟩ h3 ⟨hk, h32, hn0, hn1, hrs⟩
  have h32 := h32.symm
  subst h32
  simp only at hk hn0 hn1 hrs
  refine Exists.intro _ (And.intro (cell_blk B1 rfl) ?_)
  refine And.intro rfl (And.intro (fun hlt => ?_) (fun hlt => ?_))
  · have hkk : k < t.ranks.length := by omega
    obtain ⟨b3, o, rfl⟩ := hr.addr (by omega)
    have hcs := hr.cells encR_len (i := k) (x := t.ranks[k]) (by simp [hkk])
    have z1 := s.rs t.ranks[k] (List.getElem_mem hkk)
    refine Exists.intro _ (And.intro (cell_blk B1 rfl) ?_)
    refine And.intro (by omega) (And.intro (by omega) (Exists.intro _ (And.intro (hcs 0 _ rfl) ?_)))
    refine And.intro rfl (fun w hw => ?_)
    have hw := add_in hw (by omega) (by omega)
    refine And.intro rfl (And.intro (fun _ => yes) (fun n5 => ?_))
    refine And.intro rfl (fun z hz => ?_)
    have hz := add_in hz (by omega) (by omega)
    subst hz
    refine And.intro rfl (Exists.intro (k + 1, w) (And.intro ?_ (And.intro ?_ ?_)))
    · exact ⟨rfl, rfl, rfl, trivial⟩
    · refine ⟨by simp only; omega, rfl, by simp only; omega, by simp only; omega, fun q hq => ?_⟩
      simp only at hq
      rw [take_snoc t.ranks k hkk] at hq
      rcases List.mem_append.1 hq with hq | hq
      · exact hrs q hq
      · have : q = t.ranks[k] := by simpa using hq
        rw [this]; omega
    · simp only; omega
  have hkl : k = t.ranks.length := by omega
  rw [hkl, List.take_length] at hrs
  exact ⟨⟨false, rfl, fun _ => ⟨by omega, by omega, by omega, by omega, hps, hls, hrs⟩⟩, hc⟩

end Go.Proofs.YtigolfakcblnjaaGreat
