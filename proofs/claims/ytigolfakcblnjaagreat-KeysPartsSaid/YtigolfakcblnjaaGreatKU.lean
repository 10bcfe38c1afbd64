/-
  Layer 7: All: what it goes over, by rising keys.
-/
import Derived.Test.YtigolfakcblnjaaGreatKT
namespace Go.Proofs.YtigolfakcblnjaaGreat
open Go Go.Sx Go.Proofs.YtigolfakcblnjaaGreat.C

theorem yield_ret {P : Program} {l : Nat} {vs : List Value} {h : Heap} {Q K : Value → Heap → Prop} {Qp : List PanicEntry → Heap → Prop} (hc : YieldH P l vs h (Ret Q)) (hk : ∀ v h', Q v h' → K v h') :
    YieldH P l vs h (after K Qp) :=
  hc.mono fun e h' he => by cases e <;> first | exact hk _ _ he | exact he.elim

/-- A keyspace's things, by rising keys. -/
structure Sorted (m : List KI) (W : List (ByteArray × Thing)) : Prop where
  up : W.Pairwise fun a b => sless a.1 b.1 = true
  mem : ∀ p, p ∈ W ↔ p ∈ m.map KI.pr

theorem sless_asymm (a b : ByteArray) (h : sless a b = true) : ¬ sless b a = true := fun h2 => by
  have := sless_trans h h2
  rw [sless_irrefl] at this; cases this

theorem sorted_keys {m : List KI} {W : List (ByteArray × Thing)} {L : List ByteArray} (hW : Sorted m W) (hp : L.Perm (m.map KI.key)) (hl : L.Pairwise fun a b => sless a b = true) : L = W.map Prod.fst := by
  refine up_ext (lt := fun a b => sless a b = true) sless_asymm hl (List.Pairwise.map Prod.fst (fun _ _ h => h) hW.up) fun x => ?_
  rw [hp.mem_iff, List.mem_map, List.mem_map]
  constructor
  · rintro ⟨i, hi, rfl⟩
    exact ⟨i.pr, (hW.mem _).2 (List.mem_map_of_mem hi), rfl⟩
  · rintro ⟨p, hp, rfl⟩
    obtain ⟨i, hi, rfl⟩ := List.mem_map.1 ((hW.mem _).1 hp)
    exact ⟨i, hi, rfl⟩

theorem SL.keep {α : Type} {enc : α → List Value} {h h' : Heap} {v : Value} {l : List α} (hs : SL enc h v l) (hk : ∀ b ∈ vblk v, h'[b]? = h[b]?) : SL enc h' v l := by
  obtain ⟨a, c, rfl, h1, h2⟩ := hs
  refine ⟨a, c, rfl, h1, ?_⟩
  cases a with
  | none => exact h2
  | some a =>
    obtain ⟨b, o, sp⟩ := a
    cases sp with
    | some q => exact h2
    | none =>
      intro i v hv
      have := h2 i v hv
      unfold Sx.cell at this ⊢
      rw [hk b (by simp [vblk, ablk])]; exact this

theorem iter_calls {h : Heap} {l b1 kb sb mb c : Nat} {m : List KI} {W : List (ByteArray × Thing)} (hW : Sorted m W) (J : Nat → Nat → Heap → Prop) (Je : Heap → Prop) (B0 : Blk h b1 [ptr kb]) (kr0 : KR h kb sb mb c m)
    (hJ : ∀ p h', h.size ≤ p → p < h'.size → Chg [] h h' → J p 0 h')
    (hB : ∀ p k h', J p k h' → Blk h' b1 [ptr kb] ∧ KR h' kb sb mb c m) (hext : ∀ p k h' h'', J p k h' → Chg [] h' h'' → J p k h'')
    (hy : ∀ p k h' us (hk : k < W.length), J p k h' → TH h' us W[k].2 → YieldH Tryz.prog l [.string W[k].1, .agg ⟨us⟩] h' (Ret fun v h'' => (v = .bool true ∧ J p (k + 1) h'' ∧ h''[p]? = h'[p]?) ∨ (v = .bool false ∧ Je h''))) :
    CallsH Tryz.prog 36 [.func (.yield l) #[] #[], ptr b1] h (Ret fun _ h' => (∃ p, J p W.length h') ∨ Je h') := by
  refine f36_calls (by simp) ?_
  refine Exists.intro _ (And.intro (cell_blk B0 rfl) ?_)
  refine call_ret (none_calls kr0.ks) ?_
  rintro _ h9 ⟨rfl, e9⟩
  have e9 := e9.symm
  subst e9
  refine Exists.intro _ (And.intro (cell_blk B0 rfl) (Exists.intro _ (And.intro (cell_blk kr0.ks.k rfl) (Exists.intro _ (And.intro (cell_blk kr0.ks.s rfl) ?_)))))
  refine call_ret mKeys_calls ?_
  rintro _ h2 ⟨rfl, rfl⟩
  refine call_ret (sSorted_calls kr0) ?_
  rintro v h3 ⟨L, hsl, hperm, hpw, hfr, hc3⟩
  have hL := sorted_keys hW hperm hpw
  have hWl : W.length ≤ 65536 := by
    have h1 := hperm.length_eq
    rw [hL] at h1
    simp at h1
    have := kr0.len
    omega
  obtain ⟨a, cc, rfl, hcc⟩ := hsl.form
  have hLl : L.length = W.length := by rw [hL]; simp
  have hc03 : Chg [] h h3 := (keysHeap_chg h mb).nil hc3
  have hz : h.size < h3.size := by have := hc3.size; simp [keysHeap] at this; omega
  obtain ⟨p, hp1, hp2, hp3⟩ : ∃ p, h.size ≤ p ∧ p < h3.size ∧ (0 < L.length → ∀ b ∈ ablk a, b = p) := by
    by_cases h0 : L.length = 0
    · exact ⟨h.size, Nat.le_refl _, hz, fun h => by omega⟩
    · obtain ⟨b, o, e⟩ := hsl.addr (by omega)
      cases e
      have hcs := hsl.cells encS_len (i := 0) (x := L[0]'(by omega)) (by simp)
      have := cell_lt (hcs 0 _ rfl)
      exact ⟨b, by have := hfr b (by simp [vblk, ablk]); omega, this, by simp [ablk]⟩
  refine loop_intro (fun k : Nat => [(0, .func (.yield l) #[] #[]), (1, ptr b1), (16, .slice a L.length cc), (17, .int .i64 L.length), (18, .int .i64 k)]) (fun k h' => k ≤ W.length ∧ J p k h' ∧ SL encS h' (.slice a L.length cc) L) (fun k => W.length - k) 0
    ⟨rfl, rfl, rfl, rfl, rfl, trivial⟩ ⟨Nat.zero_le _, hJ p h3 hp1 hp2 hc03, hsl⟩ ?_
  rintro k h4 ⟨hk, hJ4, hs4⟩
  obtain ⟨B4, kr4⟩ := hB p k h4 hJ4
  refine And.intro rfl (And.intro (fun ht => ?_) (fun ht => ?_))
  · have hlt : k < W.length := by omega
    have hltL : k < L.length := by omega
    obtain ⟨b, o, rfl⟩ := hs4.addr (by omega)
    have hcs := hs4.cells encS_len (i := k) (x := L[k]) (by simp [hltL])
    have hLk : L[k] = W[k].1 := by
      have : L[k]? = (W.map Prod.fst)[k]? := by rw [← hL]
      rw [List.getElem?_eq_getElem hltL, List.getElem?_map, List.getElem?_eq_getElem hlt] at this
      simpa using this
    rw [hLk] at hcs
    refine And.intro (by omega) (And.intro (by omega) (Exists.intro _ (And.intro (hcs 0 _ rfl) ?_)))
    refine Exists.intro _ (And.intro (cell_blk B4 rfl) (Exists.intro _ (And.intro (cell_blk kr4.ks.k rfl) (Exists.intro _ (And.intro (cell_blk kr4.ks.s rfl) ?_)))))
    refine And.intro rfl (Exists.intro (m.map KI.ent) (Exists.intro c (And.intro kr4.map (And.intro (ents_fit m) ?_))))
    obtain ⟨i, hi, hip⟩ := List.mem_map.1 ((hW.mem W[k]).1 (List.getElem_mem hlt))
    have hik : i.key = W[k].1 := congrArg Prod.fst hip
    have hit : i.thing = W[k].2 := congrArg Prod.snd hip
    rcases mfind_ents W[k].1 m 0 with ⟨_, hno⟩ | ⟨j, i', hmf, hj, hik'⟩
    · exact absurd hik (hno i hi)
    have hi' : i' ∈ m := List.mem_of_getElem? hj
    have ei : i' = i := by
      have hnd := kr4.nodup
      have : ∀ {m : List KI}, (m.map KI.key).Nodup → i ∈ m → i' ∈ m → i'.key = i.key → i' = i := by
        intro m
        induction m with
        | nil => intro _ h; simp at h
        | cons x m ih =>
          intro hn h1 h2 he
          rw [List.map_cons, List.nodup_cons] at hn
          rcases List.mem_cons.1 h1 with e1 | g1
          · rcases List.mem_cons.1 h2 with e2 | g2
            · rw [e1, e2]
            · refine absurd ?_ hn.1
              rw [← e1, ← he]; exact List.mem_map_of_mem g2
          · rcases List.mem_cons.1 h2 with e2 | g2
            · refine absurd ?_ hn.1
              rw [← e2, he]; exact List.mem_map_of_mem g1
            · exact ih hn.2 g1 g2 he
      exact this hnd hi hi' (hik'.trans hik.symm)
    subst ei
    rw [hmf]
    obtain ⟨Bi, ti, ni⟩ := kr4.here i' hi
    refine Exists.intro i'.vs (And.intro ti.len (And.intro (cells_blk Bi) ?_))
    refine call_ret (copied_calls ti ni) ?_
    rintro _ h5 ⟨⟨us, rfl, tu, hus⟩, hc5⟩
    rw [hit] at tu
    refine yield_ret (hy p k h5 us hlt (hext p k _ _ hJ4 hc5) tu) ?_
    rintro r h6 (⟨rfl, hJ6, hp6⟩ | ⟨rfl, hJe⟩)
    · refine And.intro rfl (fun z hz => ?_)
      have hz := add_in hz (by omega) (by omega)
      subst hz
      refine And.intro rfl (Exists.intro (k + 1) (And.intro ?_ (And.intro ?_ ?_)))
      · exact ⟨rfl, rfl, rfl, rfl, rfl, trivial⟩
      · refine ⟨by omega, hJ6, SL.keep (hs4.ext hc5) fun b' hb' => ?_⟩
        rw [hp3 (by omega) b' hb']; exact hp6
      · omega
    · exact .inr hJe
  · have hlt : k = W.length := by omega
    subst hlt
    exact .inl ⟨p, hJ4⟩

theorem All_calls {h : Heap} {kb : Nat} : CallsH Tryz.prog 16 [ptr kb] h (Ret fun u h' => ∃ b1, u = .func (.func 36) #[] #[ptr b1] ∧ Grow h h' b1 [ptr kb]) := by
  refine f16_calls (by simp) ?_
  intro b1 h1 g1
  exact ⟨b1, rfl, g1⟩

end Go.Proofs.YtigolfakcblnjaaGreat
