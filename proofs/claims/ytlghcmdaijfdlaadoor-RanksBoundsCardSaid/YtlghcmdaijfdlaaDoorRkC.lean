/-
  The way down.
-/
import Derived.Test.YtlghcmdaijfdlaaDoorRkB
namespace Go.Proofs.YtlghcmdaijfdlaaDoor
open Go Go.Sx Go.Proofs.YtlghcmdaijfdlaaDoor.C

theorem NodeOK.ext {h h' : Heap} {a : Nd} (hn : NodeOK h a) (hc : Chg [] h h') : NodeOK h' a :=
  ⟨hn.m.chg hc (by simp), let ⟨lk, h1, h2⟩ := hn.l; ⟨lk, h1.chg hc (by simp), h2⟩, hn.pos, hn.top⟩

/-- A ranked set that may be read: the set's block, the map's, the members, the head ahead of them. -/
structure RD (h : Heap) (rb mpb : Nat) (N : List Nd) : Prop where
  r : ∃ hd mem, N = hd :: mem ∧ hd.ht = 16 ∧ Blk h rb [ptr hd.mb, .map (some mpb)]
  ok : ∀ a ∈ N, NodeOK h a
  lv : ∀ hh < 16, LvL h hh (ons hh 0 N)
  len : N.length ≤ 65537

theorem mem_of_ons {hh k i : Nat} {N : List Nd} {a : Nd} (h : (a, i) ∈ ons hh k N) : a ∈ N :=
  List.mem_of_getElem? (ons_mem h).2.2

theorem lb_keep {h h' : Heap} {a : Nd} (hn : NodeOK h a) (hc : Chg [] h h') (o : Nat) : cell h' a.lb o = cell h a.lb o := by
  obtain ⟨lk, h1, _⟩ := hn.l
  unfold cell
  rw [hc.old a.lb h1.lt (by simp)]

theorem RD.ext {h h' : Heap} {rb mpb : Nat} {N : List Nd} (rd : RD h rb mpb N) (hc : Chg [] h h') : RD h' rb mpb N where
  r := let ⟨hd, mem, h1, h2, h3⟩ := rd.r; ⟨hd, mem, h1, h2, h3.chg hc (by simp)⟩
  ok a ha := (rd.ok a ha).ext hc
  lv hh h1 := lvl_keep (fun x hx o _ => lb_keep (rd.ok x.1 (mem_of_ons (i := x.2) hx)) hc o) (rd.lv hh h1)
  len := rd.len

/-- The path: at each height the last one of the first ones. -/
def PathOK (h : Heap) (pb : Nat) (A : List Nd) : Prop :=
  ∃ pl, Blk h pb pl ∧ ∀ hh < 16, ∃ p i, LastOn hh A p i ∧ pl[hh]? = some (ptr p.mb) ∧ pl[16 + hh]? = some (.int .i64 i)

/-- What a way down asks. -/
def AskP (fi cap : Array Value) (f : Nat) (h : Heap) (N : List Nd) (K : Nat) : Prop :=
  ∀ h' k a, Chg [] h h' → N[k]? = some a → 1 ≤ k → CallsH Tryd.prog f (fi.toList ++ [.agg ⟨encR a.r⟩, .int .i64 ((k : Int) - 1)] ++ cap.toList) h' (Ret fun u h'' => u = .bool (decide (k < K)) ∧ Chg [] h' h'')

theorem down_round {Q : Post} {h h1 : Heap} {rb mpb f : Nat} {fi cap : Array Value} {N A B : List Nd} (rd : RD h rb mpb N) (hN : N = A ++ B) (hP : AskP fi cap f h N A.length) (hc1 : Chg [] h h1)
    {hh : Nat} (hhlt : hh < 16) {pb : Nat} {pl : List Value} (hpb : Blk h1 pb pl) (hpl : pl.length = 32) (hnew : h.size ≤ pb) {σ : Env} {a : Nd} {i : Nat}
    (hσ : SubL σ [(1, .func (.func f) fi cap), (5, ptr pb), (6, ptr a.mb), (7, .int .i64 i), (8, .int .i64 hh)]) (ha : (a, i) ∈ ons hh 0 A)
    (hQ : ∀ (σ' : Env) (a' : Nd) (i' : Nat) (h' : Heap), SubL σ' [(1, .func (.func f) fi cap), (5, ptr pb), (6, ptr a'.mb), (7, .int .i64 i'), (8, .int .i64 hh)] → LastOn hh A a' i' → Chg [] h h' →
      Blk h' pb (splice (splice pl hh [ptr a'.mb]) (16 + hh) [.int .i64 i']) → Q .normal σ' [] h') :
    swp Tryd.prog (.seq (.block 2 (.loop f31l8)) (.ops f31r9)) Q σ [] h1 := by
  have hlen := rd.len
  refine loop_intro (fun x : Nd × Nat => [(1, .func (.func f) fi cap), (5, ptr pb), (6, ptr x.1.mb), (7, .int .i64 x.2), (8, .int .i64 hh)])
    (fun x h' => x ∈ ons hh 0 A ∧ Chg [] h h' ∧ Blk h' pb pl) (fun x => A.length - x.2) (a, i) hσ ⟨ha, hc1, hpb⟩ ?_
  rintro ⟨b, k⟩ h2 ⟨hb, hc2, hpb2⟩
  have rd2 := rd.ext hc2
  have hbA := ons_mem hb
  have hbN : b ∈ N := by rw [hN]; exact List.mem_append_left _ (mem_of_ons hb)
  have ok := rd2.ok b hbN
  have hk : k < A.length := by have := (List.getElem?_eq_some_iff.1 hbA.2.2).1; omega
  have hAlen : A.length ≤ N.length := by rw [hN]; simp
  have hlv := rd2.lv hh hhlt
  rw [hN] at hlv
  have hnext := next_cases hlv hb
  -- leaving
  have fin : ∀ (σ' : Env) (h3 : Heap), LastOn hh A b k → Chg [] h2 h3 → SubL σ' [(1, .func (.func f) fi cap), (5, ptr pb), (6, ptr b.mb), (7, .int .i64 k), (8, .int .i64 hh)] →
      ∀ h4 h5, Put h3 h4 pb (splice pl (0 + 0 + hh * 1) [ptr b.mb]) → Put h4 h5 pb (splice (splice pl (0 + 0 + hh * 1) [ptr b.mb]) (0 + 16 + hh * 1) [.int .i64 k]) → Q .normal σ' [] h5 := by
    intro σ' h3 hlast hc3 hs h4 h5 p4 p5
    have e1 : 0 + 0 + hh * 1 = hh := by omega
    have e2 : 0 + 16 + hh * 1 = 16 + hh := by omega
    rw [e1] at p4 p5
    rw [e2] at p5
    have hc0 : Chg [] h h3 := hc2.nil hc3
    refine hQ σ' b k h5 hs hlast ?_ p5.blk
    exact (hc0.fresh p4.chg (by simp; exact hnew)).fresh p5.chg (by simp; exact hnew)
  refine Exists.intro _ (And.intro (cell_blk ok.m rfl) ?_)
  refine And.intro (by omega) (And.intro (by omega) ?_)
  have go : ∀ (to : Value) (w : Int), link h2 b hh to w → cell h2 b.lb (0 + hh * 2) = some to ∧ cell h2 b.lb (0 + hh * 2 + 1) = some (.int .i64 w) := by
    intro to w hl
    have e : 0 + hh * 2 = 2 * hh := by omega
    rw [e]; exact hl
  have cs : ∀ (to : Value) (w : Int), link h2 b hh to w → Cells h2 b.lb (0 + hh * 2) [to, .int .i64 w] := by
    intro to w hl j v hj
    obtain ⟨h1, h2⟩ := go to w hl
    match j, hj with
    | 0, hj => simp at hj; subst hj; exact h1
    | 1, hj => simp at hj; subst hj; exact h2
  obtain ⟨to, w, hl, hone, hcase⟩ : ∃ to w, link h2 b hh to w ∧ to.oneCell' = true ∧ ((to = .pointer none ∧ LastOn hh A b k) ∨ (∃ (c : Nd) (k' : Nat), to = ptr c.mb ∧ w = (k' : Int) - k ∧ k < k' ∧ N[k']? = some c ∧
      ((k' < A.length ∧ (c, k') ∈ ons hh 0 A) ∨ (A.length ≤ k' ∧ LastOn hh A b k)))) := by
    rcases hnext with ⟨⟨w, hw⟩, hlast⟩ | ⟨c, k', hw, hkk, hkA, hc⟩ | ⟨c, k', hw, hkA, hcN, hlast⟩
    · exact ⟨_, w, hw, rfl, Or.inl ⟨rfl, hlast⟩⟩
    · refine ⟨_, _, hw, rfl, Or.inr ⟨c, k', rfl, rfl, hkk, ?_, Or.inl ⟨hkA, hc⟩⟩⟩
      have := (ons_mem hc).2.2
      rw [hN, List.getElem?_append_left hkA]; simpa using this
    · exact ⟨_, _, hw, rfl, Or.inr ⟨c, k', rfl, rfl, by omega, by rw [hN]; exact hcN, Or.inr ⟨hkA, hlast⟩⟩⟩
  refine Exists.intro [to, .int .i64 w] (And.intro rfl (And.intro (cs _ _ hl) ?_))
  intro b9 h3 g3
  refine Exists.intro _ (And.intro g3.blk (And.intro (by decide) (And.intro rfl (And.intro (ones2 hone rfl) ?_))))
  intro h4 p4
  have g4 := g3.put p4
  have B4 : Blk h4 b9 [to, .int .i64 w] := p4.blk
  have hpb4 := hpb2.chg g4.chg (by simp)
  refine Exists.intro _ (And.intro (cell_blk B4 rfl) ?_)
  rcases hcase with ⟨rfl, hlast⟩ | ⟨c, k', rfl, rfl, hkk, hcN, hcase⟩
  · -- nobody behind
    refine And.intro (by omega) (And.intro (by omega) ?_)
    refine Exists.intro _ (And.intro hpb4 (And.intro (by omega) (And.intro rfl (And.intro (ones1 rfl) ?_))))
    intro h5 p5
    refine And.intro (by omega) (And.intro (by omega) ?_)
    refine Exists.intro _ (And.intro p5.blk (And.intro (by rw [splice_size]; omega) (And.intro rfl (And.intro (ones1 rfl) ?_))))
    intro h6 p6
    exact fin _ h4 hlast g4.chg ⟨rfl, rfl, rfl, rfl, rfl, trivial⟩ h5 h6 p5 p6
  · refine Exists.intro _ (And.intro (cell_blk B4 rfl) ?_)
    have rd4 := rd2.ext g4.chg
    have okc := rd4.ok c (List.mem_of_getElem? hcN)
    refine Exists.intro (encR c.r) (And.intro rfl (And.intro (cells_part (l := c.row) okc.m ?_) ?_))
    · intro j v hj
      rw [Nat.zero_add]
      unfold Nd.row
      rw [List.getElem?_append_left (List.getElem?_eq_some_iff.1 hj).1]; exact hj
    refine Exists.intro _ (And.intro (cell_blk B4 rfl) ?_)
    have hkN : k' < N.length := (List.getElem?_eq_some_iff.1 hcN).1
    refine And.intro rfl (fun z hz => ?_)
    have hz := add_in hz (by omega) (by omega)
    have hz : z = k' := by omega
    subst hz
    refine And.intro rfl (fun z hz => ?_)
    have hz := sub_in hz (by omega) (by omega)
    subst hz
    refine call_ret (hP h4 k' c (hc2.nil g4.chg) hcN (by omega)) ?_
    rintro _ h5 ⟨rfl, hc5⟩
    have hc25 : Chg [] h2 h5 := g4.chg.nil hc5
    rcases hcase with ⟨hkA, hcA⟩ | ⟨hkA, hlast⟩
    · rw [decide_eq_true hkA]
      have B5 := B4.chg hc5 (by simp)
      refine Exists.intro _ (And.intro (cell_blk B5 rfl) ?_)
      refine Exists.intro _ (And.intro (cell_blk B5 rfl) ?_)
      refine And.intro rfl (fun z hz => ?_)
      have hz := add_in hz (by omega) (by omega)
      have hz : z = k' := by omega
      subst hz
      refine And.intro rfl (Exists.intro (c, k') (And.intro ?_ (And.intro ?_ ?_)))
      · exact ⟨rfl, rfl, rfl, rfl, rfl, trivial⟩
      · exact ⟨hcA, hc2.nil hc25, hpb2.chg hc25 (by simp)⟩
      · simp only; omega
    · rw [decide_eq_false (by omega)]
      have hpb5 := hpb2.chg hc25 (by simp)
      refine And.intro (by omega) (And.intro (by omega) ?_)
      refine Exists.intro _ (And.intro hpb5 (And.intro (by omega) (And.intro rfl (And.intro (ones1 rfl) ?_))))
      intro h6 p6
      refine And.intro (by omega) (And.intro (by omega) ?_)
      refine Exists.intro _ (And.intro p6.blk (And.intro (by rw [splice_size]; omega) (And.intro rfl (And.intro (ones1 rfl) ?_))))
      intro h7 p7
      exact fin _ h5 hlast hc25 ⟨rfl, rfl, rfl, rfl, rfl, trivial⟩ h6 h7 p6 p7

theorem down_calls {h : Heap} {rb mpb f : Nat} {fi cap : Array Value} {N A B : List Nd} (rd : RD h rb mpb N) (hN : N = A ++ B) (hA : A ≠ []) (hP : AskP fi cap f h N A.length) :
    CallsH Tryd.prog 31 [ptr rb, .func (.func f) fi cap] h (Ret fun u h' => ∃ pb, u = ptr pb ∧ h.size ≤ pb ∧ PathOK h' pb A ∧ Chg [] h h') := by
  obtain ⟨hd, mem, hNe, hht, hrb⟩ := rd.r
  have hA0 : A[0]? = some hd := by
    cases A with
    | nil => exact absurd rfl hA
    | cons x A => rw [hNe] at hN; simp at hN; simp [hN.1]
  refine f31_calls (by simp) ?_
  intro pb h1 g1
  have hrb1 := hrb.chg g1.chg (by simp)
  refine Exists.intro _ (And.intro (cell_blk hrb1 rfl) ?_)
  refine loop_intro (fun x : Nat × Nd × Nat => [(1, .func (.func f) fi cap), (5, ptr pb), (6, ptr x.2.1.mb), (7, .int .i64 x.2.2), (8, .int .i64 ((x.1 : Int) - 1))])
    (fun x h' => x.1 ≤ 16 ∧ Chg [] h h' ∧ (∀ hh < x.1, (x.2.1, x.2.2) ∈ ons hh 0 A) ∧ ∃ pl, Blk h' pb pl ∧ pl.length = 32 ∧ ∀ hh, x.1 ≤ hh → hh < 16 → ∃ p i, LastOn hh A p i ∧ pl[hh]? = some (ptr p.mb) ∧ pl[16 + hh]? = some (.int .i64 i))
    (fun x => x.1) (16, hd, 0) ⟨rfl, rfl, rfl, rfl, rfl, trivial⟩ ⟨Nat.le_refl _, g1.chg, ?_, _, g1.blk, rfl, fun hh h1 h2 => by omega⟩ ?_
  · intro hh hlt
    have := mem_ons (hh := hh) (k := 0) (a := hd) (by simp only at hlt; omega) hA0
    simpa using this
  rintro ⟨n, a, i⟩ h2 ⟨hn, hc2, hmem, pl, hpb, hpl, hdone⟩
  simp only at hn hmem hdone
  refine And.intro rfl (And.intro (fun ht => ?_) (fun ht => ?_))
  · obtain ⟨hh, rfl⟩ : ∃ hh, n = hh + 1 := ⟨n - 1, by omega⟩
    have e : (((hh + 1 : Nat) : Int) - 1) = hh := by omega
    refine down_round rd hN hP hc2 (hh := hh) (by omega) hpb hpl (by rw [g1.id]; exact Nat.le_refl _) (a := a) (i := i) ?_ (hmem hh (by omega)) ?_
    · refine ⟨rfl, rfl, rfl, rfl, ?_, trivial⟩
      show some (Value.int .i64 (((hh + 1 : Nat) : Int) - 1)) = _
      rw [e]
    intro σ' a' i' h3 hσ hlast hc3 hpb3
    obtain ⟨s1, s5, s6, s7, s8, _⟩ := hσ
    have hsub : Sub (mk [(1, .func (.func f) fi cap), (5, ptr pb), (6, ptr a'.mb), (7, .int .i64 i'), (8, .int .i64 hh)]) σ' := sub_mk ⟨s1, s5, s6, s7, s8, trivial⟩
    refine sops_sub (P := Tryd.prog) (Qp := fun _ _ => False) (fun ch h hf => hf.elim)
      (K := fun σ1 h4 => SubL σ1 [(1, .func (.func f) fi cap), (5, ptr pb), (6, ptr a'.mb), (7, .int .i64 i'), (8, .int .i64 ((hh : Int) - 1))] ∧ h4 = h3) ?_ f31r10 _ _ _ hsub ?_
    · rintro σ1 σ2 h4 h12 ⟨hs1, rfl⟩
      have hs2 := hs1.sub h12
      refine And.intro rfl (Exists.intro (hh, a', i') (And.intro hs2 (And.intro ?_ ?_)))
      · refine ⟨by simp only; omega, hc3, fun hh' hlt => ons_low (by simp only at hlt; omega) hlast.mem, _, hpb3, by simp only [splice_size]; exact hpl, fun hh' h1 h2 => ?_⟩
        simp only at h1
        by_cases e : hh' = hh
        · subst e
          refine ⟨a', i', hlast, ?_, ?_⟩
          · rw [splice_get _ _ _ (by rw [splice_size]; simp; omega), if_neg (by simp; omega), splice_get _ _ _ (by simp; omega), if_pos (by simp)]; simp
          · rw [splice_get _ _ _ (by rw [splice_size]; simp; omega), if_pos (by simp)]; simp
        · obtain ⟨p, j, h3, h4, h5⟩ := hdone hh' (by omega) h2
          refine ⟨p, j, h3, ?_, ?_⟩
          · rw [splice_get _ _ _ (by rw [splice_size]; simp; omega), if_neg (by simp; omega), splice_get _ _ _ (by simp; omega), if_neg (by simp; omega)]; exact h4
          · rw [splice_get _ _ _ (by rw [splice_size]; simp; omega), if_neg (by simp; omega), splice_get _ _ _ (by simp; omega), if_neg (by simp; omega)]; exact h5
      · simp only; omega
    · refine And.intro rfl (fun z hz => ?_)
      have hz := sub_in hz (by omega) (by omega)
      subst hz
      exact ⟨⟨rfl, rfl, rfl, rfl, rfl, trivial⟩, rfl⟩
  · have h0 : n = 0 := by omega
    subst h0
    refine ⟨pb, rfl, by rw [g1.id]; exact Nat.le_refl _, ⟨pl, hpb, fun hh hlt => hdone hh (by omega) hlt⟩, hc2⟩

end Go.Proofs.YtlghcmdaijfdlaaDoor
