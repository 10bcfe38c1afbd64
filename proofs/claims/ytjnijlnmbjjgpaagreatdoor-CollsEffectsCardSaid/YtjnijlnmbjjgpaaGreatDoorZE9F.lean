/-
  The way down.
  Small ones: less, TrailingZeros, none.
  Links put in and taken out, height by height. Plain.
  A member put in, height by height: what holds below a height, and above. Plain.
  put.
  put, walked.
  A member taken out, height by height. Plain.
  take, walked.
  What a set's map tells; Drop, Len, Set, Score.
  Set, Score, Rank.
  begun, Of.
  from, At, Between.
  At, Between.
  Layer 9: the commands of ranked sets. (Written by gencK.py.)
  Layer 9: SINTER: a map that counts, its keys in order.
  Layer 9: Do, whatever is asked: its effects are all done.
  Layer 9: known(), by a walk.
  Layer 9: what is too much.
  Layer 9: the law of effects (taborlaw09.CollsEffects).
  The world of a witness: the tables and errors of strconv and math/bits as they are laid.
  Layer 7: things, entries and effects opened.
  Layer 8: strconv's laid variables, as the walks want them; arguments opened.
  Layer 9: the table of math/bits as it is laid.
  CollsEffects: a command's effects, done on the keyspace, are all done; for every list of things, every time, every command.
-/
import Derived.Test.YtjnijlnmbjjgpaaGreatDoorCards
import Derived.Test.YtjnijlnmbjjgpaaGreatDoorTie
import Derived.Deep.DeepHandedRow
import Derived.ProofKit
import Derived.Test.YtjnijlnmbjjgpaaGreatDoorZE9E
namespace Go.Proofs.YtjnijlnmbjjgpaaGreatDoor.K5
open Go Go.Sx Go.Proofs.YtjnijlnmbjjgpaaGreatDoor C
theorem NodeOK.ext {h h' : Heap} {a : Nd} (hn : NodeOK h a) (hc : Chg [] h h') : NodeOK h' a :=
 ⟨hn.m.chg hc (by simp), let ⟨lk, h1, h2⟩ := hn.l; ⟨lk, h1.chg hc (by simp), h2⟩, hn.pos, hn.top⟩
structure RD (h : Heap) (rb mpb : Nat) (N : List Nd) : Prop where
 r : ∃ hd mem, N = hd :: mem ∧ hd.ht = 16 ∧ Blk h rb [ptr hd.mb, .map (some mpb)]
 ok : ∀ a ∈ N, NodeOK h a
 lv : ∀ hh < 16, LvL h hh (ons hh 0 N)
 len : N.length ≤ 65537
theorem mem_of_ons {hh k i : Nat} {N : List Nd} {a : Nd} (h : (a, i) ∈ ons hh k N) : a ∈ N :=
 List.mem_of_getElem? (ons_mem h).2.2
theorem lb_keep {h h' : Heap} {a : Nd} (hn : NodeOK h a) (hc : Chg [] h h') (o : Nat) : cell h' a.lb o = cell h a.lb o := by
 obtain ⟨lk, h1, _⟩ := hn.l
 unfold cell
 rw [hc.old a.lb h1.lt (by simp)]
theorem RD.ext {h h' : Heap} {rb mpb : Nat} {N : List Nd} (rd : RD h rb mpb N) (hc : Chg [] h h') : RD h' rb mpb N where
 r := let ⟨hd, mem, h1, h2, h3⟩ := rd.r; ⟨hd, mem, h1, h2, h3.chg hc (by simp)⟩
 ok a ha := (rd.ok a ha).ext hc
 lv hh h1 := lvl_keep (fun x hx o _ => lb_keep (rd.ok x.1 (mem_of_ons (i := x.2) hx)) hc o) (rd.lv hh h1)
 len := rd.len
def PathOK (h : Heap) (pb : Nat) (A : List Nd) : Prop :=
 ∃ pl, Blk h pb pl ∧ ∀ hh < 16, ∃ p i, LastOn hh A p i ∧ pl[hh]? = some (ptr p.mb) ∧ pl[16 + hh]? = some (.int .i64 i)
def AskP (fi cap : Array Value) (f : Nat) (h : Heap) (N : List Nd) (K : Nat) : Prop :=
 ∀ h' k a, Chg [] h h' → N[k]? = some a → 1 ≤ k → CallsH Tryz.prog f (fi.toList ++ [.agg ⟨encR a.r⟩, .int .i64 ((k : Int) - 1)] ++ cap.toList) h' (Ret fun u h'' => u = .bool (decide (k < K)) ∧ Chg [] h' h'')
theorem down_round {Q : Post} {h h1 : Heap} {rb mpb f : Nat} {fi cap : Array Value} {N A B : List Nd} (rd : RD h rb mpb N) (hN : N = A ++ B) (hP : AskP fi cap f h N A.length) (hc1 : Chg [] h h1)
  {hh : Nat} (hhlt : hh < 16) {pb : Nat} {pl : List Value} (hpb : Blk h1 pb pl) (hpl : pl.length = 32) (hnew : h.size ≤ pb) {σ : Env} {a : Nd} {i : Nat}
  (hσ : SubL σ [(1, .func (.func f) fi cap), (5, ptr pb), (6, ptr a.mb), (7, .int .i64 i), (8, .int .i64 hh)]) (ha : (a, i) ∈ ons hh 0 A)
  (hQ : ∀ (σ' : Env) (a' : Nd) (i' : Nat) (h' : Heap), SubL σ' [(1, .func (.func f) fi cap), (5, ptr pb), (6, ptr a'.mb), (7, .int .i64 i'), (8, .int .i64 hh)] → LastOn hh A a' i' → Chg [] h h' →
   Blk h' pb (splice (splice pl hh [ptr a'.mb]) (16 + hh) [.int .i64 i']) → Q .normal σ' [] h') :
  swp Tryz.prog (.seq (.block 2 (.loop f241l8)) (.ops f241r9)) Q σ [] h1 := by
 have hlen := rd.len
 refine loop_intro (fun x : Nd × Nat => [(1, .func (.func f) fi cap), (5, ptr pb), (6, ptr x.1.mb), (7, .int .i64 x.2), (8, .int .i64 hh)])
  (fun x h' => x ∈ ons hh 0 A ∧ Chg [] h h' ∧ Blk h' pb pl) (fun x => A.length - x.2) (a, i) hσ ⟨ha, hc1, hpb⟩ ?_
 rintro ⟨b, k⟩ h2 ⟨hb, hc2, hpb2⟩
 have rd2 := rd.ext hc2
 have hbA := ons_mem hb
 have hbN : b ∈ N := by rw [hN]; exact List.mem_append_left _ (mem_of_ons hb)
 have ok := rd2.ok b hbN
 have hk : k < A.length := by have := (List.getElem?_eq_some_iff.1 hbA.2.2).1; omega
 have hAlen : A.length ≤ N.length := by rw [hN]; simp
 have hlv := rd2.lv hh hhlt
 rw [hN] at hlv
 have hnext := next_cases hlv hb
 -- leaving
 have fin : ∀ (σ' : Env) (h3 : Heap), LastOn hh A b k → Chg [] h2 h3 → SubL σ' [(1, .func (.func f) fi cap), (5, ptr pb), (6, ptr b.mb), (7, .int .i64 k), (8, .int .i64 hh)] →
   ∀ h4 h5, Put h3 h4 pb (splice pl (0 + 0 + hh * 1) [ptr b.mb]) → Put h4 h5 pb (splice (splice pl (0 + 0 + hh * 1) [ptr b.mb]) (0 + 16 + hh * 1) [.int .i64 k]) → Q .normal σ' [] h5 := by
  intro σ' h3 hlast hc3 hs h4 h5 p4 p5
  have e1 : 0 + 0 + hh * 1 = hh := by omega
  have e2 : 0 + 16 + hh * 1 = 16 + hh := by omega
  rw [e1] at p4 p5
  rw [e2] at p5
  have hc0 : Chg [] h h3 := hc2.nil hc3
  refine hQ σ' b k h5 hs hlast ?_ p5.blk
  exact (hc0.fresh p4.chg (by simp; exact hnew)).fresh p5.chg (by simp; exact hnew)
 refine Ei _ (Ai (cell_blk ok.m rfl) ?_)
 refine Ai (by omega) (Ai (by omega) ?_)
 have go : ∀ (to : Value) (w : Int), link h2 b hh to w → cell h2 b.lb (0 + hh * 2) = some to ∧ cell h2 b.lb (0 + hh * 2 + 1) = some (.int .i64 w) := by
  intro to w hl
  have e : 0 + hh * 2 = 2 * hh := by omega
  rw [e]; exact hl
 have cs : ∀ (to : Value) (w : Int), link h2 b hh to w → Cells h2 b.lb (0 + hh * 2) [to, .int .i64 w] := by
  intro to w hl j v hj
  obtain ⟨h1, h2⟩ := go to w hl
  match j, hj with
  |0, hj => simp at hj; subst hj; exact h1
  |1, hj => simp at hj; subst hj; exact h2
 obtain ⟨to, w, hl, hone, hcase⟩ : ∃ to w, link h2 b hh to w ∧ to.oneCell' = true ∧ ((to = .pointer none ∧ LastOn hh A b k) ∨ (∃ (c : Nd) (k' : Nat), to = ptr c.mb ∧ w = (k' : Int) - k ∧ k < k' ∧ N[k']? = some c ∧
   ((k' < A.length ∧ (c, k') ∈ ons hh 0 A) ∨ (A.length ≤ k' ∧ LastOn hh A b k)))) := by
  rcases hnext with ⟨⟨w, hw⟩, hlast⟩ | ⟨c, k', hw, hkk, hkA, hc⟩ | ⟨c, k', hw, hkA, hcN, hlast⟩
  ·exact ⟨_, w, hw, rfl, Or.inl ⟨rfl, hlast⟩⟩
  ·refine ⟨_, _, hw, rfl, Or.inr ⟨c, k', rfl, rfl, hkk, ?_, Or.inl ⟨hkA, hc⟩⟩⟩
   have := (ons_mem hc).2.2
   rw [hN, List.getElem?_append_left hkA]; simpa using this
  ·exact ⟨_, _, hw, rfl, Or.inr ⟨c, k', rfl, rfl, by omega, by rw [hN]; exact hcN, Or.inr ⟨hkA, hlast⟩⟩⟩
 refine Ei [to, .int .i64 w] (Ai rfl (Ai (cs _ _ hl) ?_))
 intro b9 h3 g3
 refine Ei _ (Ai g3.blk (Ai (by decide) (Ai rfl (Ai (ones2 hone rfl) ?_))))
 intro h4 p4
 have g4 := g3.put p4
 have B4 : Blk h4 b9 [to, .int .i64 w] := p4.blk
 have hpb4 := hpb2.chg g4.chg (by simp)
 refine Ei _ (Ai (cell_blk B4 rfl) ?_)
 rcases hcase with ⟨rfl, hlast⟩ | ⟨c, k', rfl, rfl, hkk, hcN, hcase⟩
 ·-- nobody behind
  refine Ai (by omega) (Ai (by omega) ?_)
  refine Ei _ (Ai hpb4 (Ai (by omega) (Ai rfl (Ai (ones1 rfl) ?_))))
  intro h5 p5
  refine Ai (by omega) (Ai (by omega) ?_)
  refine Ei _ (Ai p5.blk (Ai (by rw [splice_size]; omega) (Ai rfl (Ai (ones1 rfl) ?_))))
  intro h6 p6
  exact fin _ h4 hlast g4.chg ⟨rfl, rfl, rfl, rfl, rfl, trivial⟩ h5 h6 p5 p6
 ·refine Ei _ (Ai (cell_blk B4 rfl) ?_)
  have rd4 := rd2.ext g4.chg
  have okc := rd4.ok c (List.mem_of_getElem? hcN)
  refine Ei (encR c.r) (Ai rfl (Ai (cells_part (l := c.row) okc.m ?_) ?_))
  ·intro j v hj
   rw [Nat.zero_add]
   unfold Nd.row
   rw [List.getElem?_append_left (List.getElem?_eq_some_iff.1 hj).1]; exact hj
  refine Ei _ (Ai (cell_blk B4 rfl) ?_)
  have hkN : k' < N.length := (List.getElem?_eq_some_iff.1 hcN).1
  refine Ai rfl (fun z hz => ?_)
  have hz := add_in hz (by omega) (by omega)
  have hz : z = k' := by omega
  subst hz
  refine Ai rfl (fun z hz => ?_)
  have hz := sub_in hz (by omega) (by omega)
  subst hz
  refine call_ret (hP h4 k' c (hc2.nil g4.chg) hcN (by omega)) ?_
  rintro _ h5 ⟨rfl, hc5⟩
  have hc25 : Chg [] h2 h5 := g4.chg.nil hc5
  rcases hcase with ⟨hkA, hcA⟩ | ⟨hkA, hlast⟩
  ·rw [decide_eq_true hkA]
   have B5 := B4.chg hc5 (by simp)
   refine Ei _ (Ai (cell_blk B5 rfl) ?_)
   refine Ei _ (Ai (cell_blk B5 rfl) ?_)
   refine Ai rfl (fun z hz => ?_)
   have hz := add_in hz (by omega) (by omega)
   have hz : z = k' := by omega
   subst hz
   refine Ai rfl (Ei (c, k') (Ai ?_ (Ai ?_ ?_)))
   ·exact ⟨rfl, rfl, rfl, rfl, rfl, trivial⟩
   ·exact ⟨hcA, hc2.nil hc25, hpb2.chg hc25 (by simp)⟩
   ·simp only; omega
  ·rw [decide_eq_false (by omega)]
   have hpb5 := hpb2.chg hc25 (by simp)
   refine Ai (by omega) (Ai (by omega) ?_)
   refine Ei _ (Ai hpb5 (Ai (by omega) (Ai rfl (Ai (ones1 rfl) ?_))))
   intro h6 p6
   refine Ai (by omega) (Ai (by omega) ?_)
   refine Ei _ (Ai p6.blk (Ai (by rw [splice_size]; omega) (Ai rfl (Ai (ones1 rfl) ?_))))
   intro h7 p7
   exact fin _ h5 hlast hc25 ⟨rfl, rfl, rfl, rfl, rfl, trivial⟩ h6 h7 p6 p7
theorem down_calls {h : Heap} {rb mpb f : Nat} {fi cap : Array Value} {N A B : List Nd} (rd : RD h rb mpb N) (hN : N = A ++ B) (hA : A ≠ []) (hP : AskP fi cap f h N A.length) :
  CallsH Tryz.prog 241 [ptr rb, .func (.func f) fi cap] h (Ret fun u h' => ∃ pb, u = ptr pb ∧ h.size ≤ pb ∧ PathOK h' pb A ∧ Chg [] h h') := by
 obtain ⟨hd, mem, hNe, hht, hrb⟩ := rd.r
 have hA0 : A[0]? = some hd := by
  cases A with
  |nil => exact absurd rfl hA
  |cons x A => rw [hNe] at hN; simp at hN; simp [hN.1]
 refine f241_calls (by simp) ?_
 intro pb h1 g1
 have hrb1 := hrb.chg g1.chg (by simp)
 refine Ei _ (Ai (cell_blk hrb1 rfl) ?_)
 refine loop_intro (fun x : Nat × Nd × Nat => [(1, .func (.func f) fi cap), (5, ptr pb), (6, ptr x.2.1.mb), (7, .int .i64 x.2.2), (8, .int .i64 ((x.1 : Int) - 1))])
  (fun x h' => x.1 ≤ 16 ∧ Chg [] h h' ∧ (∀ hh < x.1, (x.2.1, x.2.2) ∈ ons hh 0 A) ∧ ∃ pl, Blk h' pb pl ∧ pl.length = 32 ∧ ∀ hh, x.1 ≤ hh → hh < 16 → ∃ p i, LastOn hh A p i ∧ pl[hh]? = some (ptr p.mb) ∧ pl[16 + hh]? = some (.int .i64 i))
  (fun x => x.1) (16, hd, 0) ⟨rfl, rfl, rfl, rfl, rfl, trivial⟩ ⟨Nat.le_refl _, g1.chg, ?_, _, g1.blk, rfl, fun hh h1 h2 => by omega⟩ ?_
 ·intro hh hlt
  have := mem_ons (hh := hh) (k := 0) (a := hd) (by simp only at hlt; omega) hA0
  simpa using this
 rintro ⟨n, a, i⟩ h2 ⟨hn, hc2, hmem, pl, hpb, hpl, hdone⟩
 simp only at hn hmem hdone
 refine Ai rfl (Ai (fun ht => ?_) (fun ht => ?_))
 ·obtain ⟨hh, rfl⟩ : ∃ hh, n = hh + 1 := ⟨n - 1, by omega⟩
  have e : (((hh + 1 : Nat) : Int) - 1) = hh := by omega
  refine down_round rd hN hP hc2 (hh := hh) (by omega) hpb hpl (by rw [g1.id]; exact Nat.le_refl _) (a := a) (i := i) ?_ (hmem hh (by omega)) ?_
  ·refine ⟨rfl, rfl, rfl, rfl, ?_, trivial⟩
   show some (Value.int .i64 (((hh + 1 : Nat) : Int) - 1)) = _
   rw [e]
  intro σ' a' i' h3 hσ hlast hc3 hpb3
  obtain ⟨s1, s5, s6, s7, s8, _⟩ := hσ
  have hsub : Sub (mk [(1, .func (.func f) fi cap), (5, ptr pb), (6, ptr a'.mb), (7, .int .i64 i'), (8, .int .i64 hh)]) σ' := sub_mk ⟨s1, s5, s6, s7, s8, trivial⟩
  refine sops_sub (P := Tryz.prog) (Qp := fun _ _ => False) (fun ch h hf => hf.elim)
   (K := fun σ1 h4 => SubL σ1 [(1, .func (.func f) fi cap), (5, ptr pb), (6, ptr a'.mb), (7, .int .i64 i'), (8, .int .i64 ((hh : Int) - 1))] ∧ h4 = h3) ?_ f241r10 _ _ _ hsub ?_
  ·rintro σ1 σ2 h4 h12 ⟨hs1, rfl⟩
   have hs2 := hs1.sub h12
   refine Ai rfl (Ei (hh, a', i') (Ai hs2 (Ai ?_ ?_)))
   ·refine ⟨by simp only; omega, hc3, fun hh' hlt => ons_low (by simp only at hlt; omega) hlast.mem, _, hpb3, by simp only [splice_size]; exact hpl, fun hh' h1 h2 => ?_⟩
    simp only at h1
    by_cases e : hh' = hh
    ·subst e
     refine ⟨a', i', hlast, ?_, ?_⟩
     ·rw [splice_get _ _ _ (by rw [splice_size]; simp; omega), if_neg (by simp; omega), splice_get _ _ _ (by simp; omega), if_pos (by simp)]; simp
     ·rw [splice_get _ _ _ (by rw [splice_size]; simp; omega), if_pos (by simp)]; simp
    ·obtain ⟨p, j, h3, h4, h5⟩ := hdone hh' (by omega) h2
     refine ⟨p, j, h3, ?_, ?_⟩
     ·rw [splice_get _ _ _ (by rw [splice_size]; simp; omega), if_neg (by simp; omega), splice_get _ _ _ (by simp; omega), if_neg (by simp; omega)]; exact h4
     ·rw [splice_get _ _ _ (by rw [splice_size]; simp; omega), if_neg (by simp; omega), splice_get _ _ _ (by simp; omega), if_neg (by simp; omega)]; exact h5
   ·simp only; omega
  ·refine Ai rfl (fun z hz => ?_)
   have hz := sub_in hz (by omega) (by omega)
   subst hz
   exact ⟨⟨rfl, rfl, rfl, rfl, rfl, trivial⟩, rfl⟩
 ·have h0 : n = 0 := by omega
  subst h0
  refine ⟨pb, rfl, by rw [g1.id]; exact Nat.le_refl _, ⟨pl, hpb, fun hh hlt => hdone hh (by omega) hlt⟩, hc2⟩
theorem less_calls {h : Heap} (x : Rank) :
  CallsH Tryz.prog 242 [.agg ⟨encR x⟩] h (Ret fun u h' => ∃ b, u = .func (.func 279) #[] #[ptr b] ∧ h.size ≤ b ∧ Blk h' b (encR x) ∧ Chg [] h h') := by
 refine f242_calls (by simp) ?_
 intro b h1 g1
 exact ⟨b, rfl, by rw [g1.id]; exact Nat.le_refl _, g1.blk, g1.chg⟩
theorem less1_calls {h : Heap} {b : Nat} {x : Rank} (B : Blk h b (encR x)) (y : Rank) (v : Value) :
  CallsH Tryz.prog 279 [.agg ⟨encR y⟩, v, ptr b] h (Ret fun u h' => u = .bool (ahead y x) ∧ Chg [] h h') := by
 refine f279_calls (by simp) ?_
 intro b1 h1 g1
 have B1 : Blk h1 b1 (encR y) := g1.blk
 have B2 : Blk h1 b (encR x) := B.chg g1.chg (by simp)
 have hc := g1.chg
 refine Ei _ (Ai (cell_blk B1 rfl) (Ei _ (Ai (cell_blk B2 rfl) ?_)))
 refine Ai rfl (Ai (fun ht => ?_) (fun ht => ?_))
 ·have e : ahead y x = true := by simp [ahead, ht]
  refine Ai ?_ hc
  rw [e]; rfl
 ·refine Ei _ (Ai (cell_blk B1 rfl) (Ei _ (Ai (cell_blk B2 rfl) ?_)))
  refine Ai rfl (Ai (fun he => ?_) (fun he => ?_))
  ·refine Ei _ (Ai (cell_blk B1 rfl) (Ei _ (Ai (cell_blk B2 rfl) ?_)))
   refine Ai (fun hl => ?_) (fun hl => ?_)
   ·have e : ahead y x = true := by simp [ahead, he, hl]
    exact Ai (by rw [e]; rfl) hc
   ·have e : ahead y x = false := by simp [ahead, he, hl]
    exact Ai (by rw [e]; rfl) hc
  ·have e : ahead y x = false := by simp [ahead, ht, he]
   exact Ai (by rw [e]; rfl) hc
def recs (N : List Nd) : List Rank := N.tail.map Nd.r
theorem less_ask {h : Heap} {b : Nat} {x : Rank} (B : Blk h b (encR x)) {N : List Nd} (hs : Sorted (recs N)) : AskP #[] #[ptr b] 279 h N (upto x (recs N) + 1) := by
 intro h' k a hc hk hpos
 obtain ⟨j, rfl⟩ : ∃ j, k = j + 1 := ⟨k - 1, by omega⟩
 have hj : (recs N)[j]? = some a.r := by
  cases N with
  |nil => simp at hk
  |cons y N => simp at hk; simp [recs, hk]
 obtain ⟨hlt, he⟩ := List.getElem?_eq_some_iff.1 hj
 have hiff := upto_iff (x := x) hs j hlt
 rw [he] at hiff
 refine Ret.mono (less1_calls (B.chg hc (by simp)) a.r _) ?_
 rintro _ h'' ⟨rfl, hc'⟩
 refine ⟨?_, hc'⟩
 congr 1
 rw [Bool.eq_iff_iff, hiff]
 simp
def TabH (h : Heap) : Prop := ∀ i < 64, ∃ v : Int, 0 ≤ v ∧ v ≤ 255 ∧ cell h 3 i = some (.int .u8 v)
theorem wrap_u64 (x : Int) : 0 ≤ IntKind.u64.wrap x ∧ IntKind.u64.wrap x < 18446744073709551616 := by
 have e : IntKind.u64.wrap x = x % 18446744073709551616 := by
  simp [IntKind.wrap, IntKind.bits, IntKind.signed]
 rw [e]; omega
theorem and_one {a z : Int} (hz : z = bitw .and .i64 a 1) : 0 ≤ z ∧ z ≤ 1 := by
 have hb : ((BitVec.ofInt IntKind.i64.bits a) &&& (BitVec.ofInt IntKind.i64.bits 1)).toNat ≤ 1 := by
  rw [BitVec.toNat_and]
  exact Nat.le_trans Nat.and_le_right (by decide)
 have : z = IntKind.i64.wrap (((BitVec.ofInt IntKind.i64.bits a) &&& (BitVec.ofInt IntKind.i64.bits 1)).toNat : Nat) := hz
 rw [wrap_in (by omega) (by omega)] at this
 omega
theorem tz64_calls {h : Heap} (ht : TabH h) (v : Int) :
  CallsH Tryz.prog 274 [.int .u64 v] h (Ret fun u h' => (∃ z : Int, u = .int .i64 z ∧ 0 ≤ z ∧ z ≤ 255) ∧ h' = h) := by
 refine f274_calls (by simp) ?_
 refine Ai rfl (Ai (fun he => ?_) (fun he => ?_))
 ·exact ⟨⟨64, rfl, by decide, by decide⟩, rfl⟩
 ·intro n hn
  refine Ai rfl (fun b hb => ?_)
  refine Ai rfl (fun m hm => ?_)
  refine Ai rfl (fun s hs => ?_)
  have hm2 : 0 ≤ m ∧ m < 18446744073709551616 := by rw [hm]; exact wrap_u64 _
  have hs2 : s = m / 288230376151711744 := by
   have : s = m.fdiv (2 ^ 58) := hs
   rw [this, Int.fdiv_eq_ediv_of_nonneg _ (by decide)]; rfl
  have h0 : 0 ≤ s := by omega
  have h1 : s < 64 := by omega
  obtain ⟨v, v0, v1, hv⟩ := ht s.toNat (by omega)
  have e : 0 + s.toNat * 1 = s.toNat := by omega
  refine Ai h0 (Ai h1 (Ei _ (Ai (by rw [e]; exact hv) ?_)))
  intro z hz
  rw [wrap_in (by omega) (by omega)] at hz
  exact ⟨⟨z, rfl, by omega, by omega⟩, rfl⟩
theorem tz_calls {h : Heap} (ht : TabH h) (v : Int) :
  CallsH Tryz.prog 225 [.int .u64 v] h (Ret fun u h' => (∃ z : Int, u = .int .i64 z ∧ 0 ≤ z ∧ z ≤ 255) ∧ h' = h) := by
 refine f225_calls (by simp) ?_
 refine call_ret (tz64_calls ht v) ?_
 rintro _ h' ⟨⟨z, rfl, h0, h1⟩, rfl⟩
 exact ⟨⟨z, rfl, h0, h1⟩, rfl⟩
theorem none_calls {h : Heap} {rb hb : Nat} {m : Value} (hr : Blk h rb [ptr hb, m]) :
  CallsH Tryz.prog 240 [ptr rb] h (Ret fun u h' => u = .bool false ∧ h' = h) := by
 refine f240_calls (by simp) ?_
 refine Ei _ (Ai (cell_blk hr rfl) ?_)
 exact ⟨rfl, rfl⟩
theorem cell_put {h h' : Heap} {b o : Nat} {l vs : List Value} (hl : o + vs.length ≤ l.length) (B : Blk h b l) (p : Put h h' b (splice l o vs)) (b' o' : Nat) :
  cell h' b' o' = if b' = b ∧ o ≤ o' ∧ o' < o + vs.length then vs[o' - o]? else cell h b' o' := by
 by_cases hb : b' = b
 ·subst hb
  obtain ⟨e, he⟩ := p.blk
  obtain ⟨e0, he0⟩ := B
  have h1 : cell h' b' o' = (splice l o vs)[o']? := by simp [cell, he]
  have h2 : cell h b' o' = l[o']? := by simp [cell, he0]
  rw [h1, h2, splice_get l o vs hl o']
  simp
 ·rw [if_neg (by intro h; exact hb h.1)]
  unfold cell
  rw [p.old b' hb]
def Grows (h h' : Heap) (b b' o : Nat) (d : Int) : Prop :=
 ∃ w w', cell h b o = some (.int .i64 w) ∧ cell h' b' o = some (.int .i64 w') ∧ (-70000 ≤ w → w ≤ 70000 → w' = w + d)
def lbs (L : List (Nd × Nat)) : List Nat := L.map fun x => x.1.lb
theorem lbs_mid {l r : List (Nd × Nat)} {y : Nd × Nat} (nd : (lbs (l ++ y :: r)).Nodup) : (∀ x ∈ l, x.1.lb ≠ y.1.lb) ∧ ∀ x ∈ r, x.1.lb ≠ y.1.lb := by
 simp only [lbs, List.map_append, List.map_cons, List.nodup_append, List.nodup_cons] at nd
 obtain ⟨_, ⟨h1, _⟩, h2⟩ := nd
 refine ⟨fun x hx => ?_, fun x hx e => ?_⟩
 ·exact h2 x.1.lb (List.mem_map_of_mem (f := fun x : Nd × Nat => x.1.lb) hx) y.1.lb (by simp)
 ·exact h1 (by rw [← e]; exact List.mem_map_of_mem (f := fun x : Nd × Nat => x.1.lb) hx)
variable {h h' : Heap} {hh : Nat} {l r : List (Nd × Nat)} {p x : Nd} {i K : Nat}
theorem lv_skip (hL : LvL h hh (l ++ (p, i) :: r)) (nd : (lbs (l ++ (p, i) :: r)).Nodup) (hk : ∀ y ∈ l ++ (p, i) :: r, y.2 ≤ 65537)
  (keep : ∀ b o, b ≠ p.lb → cell h' b o = cell h b o) (k0 : cell h' p.lb (2 * hh) = cell h p.lb (2 * hh)) (k1 : Grows h h' p.lb p.lb (2 * hh + 1) 1) : LvL h' hh (l ++ (p, i) :: up1 r) := by
 obtain ⟨n1, n2⟩ := lbs_mid nd
 obtain ⟨hs, hl, hr⟩ := lvl_app.1 hL
 rw [lvl_app]
 refine ⟨seg_keep (fun y hy o _ => keep _ _ (n1 y hy)) hs, ?_, lvl_up.2 (lvl_keep (fun y hy o _ => keep _ _ (n2 y hy)) hr)⟩
 obtain ⟨w, w', e1, e2, e3⟩ := k1
 cases r with
 |nil =>
  obtain ⟨w0, hw⟩ := hl
  exact ⟨w', by rw [k0]; exact hw.1, e2⟩
 |cons y r =>
  obtain ⟨b, k⟩ := y
  refine ⟨by rw [k0]; exact hl.1, ?_⟩
  have hw := hl.2
  rw [e1] at hw
  simp at hw
  have h1 := hk (b, k) (by simp)
  have h2 := hk (p, i) (by simp)
  simp only at h1 h2
  rw [e2, e3 (by omega) (by omega), hw]
  congr 2
  push_cast
  omega
theorem lv_put (hL : LvL h hh (l ++ (p, i) :: r)) (nd : (lbs (l ++ (p, i) :: r)).Nodup) (hx : x.lb ∉ lbs (l ++ (p, i) :: r)) (hk : ∀ y ∈ l ++ (p, i) :: r, y.2 ≤ 65537)
  (keep : ∀ b o, b ≠ p.lb → b ≠ x.lb → cell h' b o = cell h b o) (p0 : cell h' p.lb (2 * hh) = some (ptr x.mb)) (p1 : cell h' p.lb (2 * hh + 1) = some (.int .i64 ((K : Int) - i)))
  (x0 : cell h' x.lb (2 * hh) = cell h p.lb (2 * hh)) (x1 : Grows h h' p.lb x.lb (2 * hh + 1) (i + 1 - (K : Int))) : LvL h' hh (l ++ (p, i) :: (x, K) :: up1 r) := by
 obtain ⟨n1, n2⟩ := lbs_mid nd
 obtain ⟨hs, hl, hr⟩ := lvl_app.1 hL
 have m1 : ∀ y ∈ l, y.1.lb ≠ x.lb := fun y hy e => hx (by rw [← e]; exact List.mem_map_of_mem (f := fun x : Nd × Nat => x.1.lb) (by simp [hy]))
 have m2 : ∀ y ∈ r, y.1.lb ≠ x.lb := fun y hy e => hx (by rw [← e]; exact List.mem_map_of_mem (f := fun x : Nd × Nat => x.1.lb) (by simp [hy]))
 rw [lvl_app]
 refine ⟨seg_keep (fun y hy o _ => keep _ _ (n1 y hy) (m1 y hy)) hs, ⟨p0, p1⟩, ?_, lvl_up.2 (lvl_keep (fun y hy o _ => keep _ _ (n2 y hy) (m2 y hy)) hr)⟩
 obtain ⟨w, w', e1, e2, e3⟩ := x1
 cases r with
 |nil =>
  obtain ⟨w0, hw⟩ := hl
  exact ⟨w', by rw [x0]; exact hw.1, e2⟩
 |cons y r =>
  obtain ⟨b, k⟩ := y
  refine ⟨by rw [x0]; exact hl.1, ?_⟩
  have hw := hl.2
  rw [e1] at hw
  simp at hw
  have h1 := hk (b, k) (by simp)
  have h2 := hk (p, i) (by simp)
  simp only at h1 h2
  rw [e2, e3 (by omega) (by omega), hw]
  congr 2
  push_cast
  omega
end Go.Proofs.YtjnijlnmbjjgpaaGreatDoor.K5
namespace Go.Proofs.YtjnijlnmbjjgpaaGreatDoor.K5
open Go Go.Sx Go.Proofs.YtjnijlnmbjjgpaaGreatDoor C
def lbN (N : List Nd) : List Nat := N.map Nd.lb
theorem lbs_ons (hh : Nat) : ∀ (k : Nat) (N : List Nd), (lbs (ons hh k N)).Sublist (lbN N)
 |k, [] => by simp [lbs, ons, lbN]
 |k, a :: N => by
  have ih := lbs_ons hh (k + 1) N
  simp only [ons]
  split
  ·exact ih.cons_cons _
  ·exact ih.cons _
theorem ons_mid (hh : Nat) (A B : List Nd) (x : Nd) : ons hh 0 (A ++ x :: B) = ons hh 0 A ++ (if hh < x.ht then (x, A.length) :: up1 (ons hh A.length B) else up1 (ons hh A.length B)) := by
 rw [ons_app, Nat.zero_add]
 simp only [ons, ons_up]
theorem ons_both (hh : Nat) (A B : List Nd) : ons hh 0 (A ++ B) = ons hh 0 A ++ ons hh A.length B := by
 rw [ons_app, Nat.zero_add]
structure PI (h2 h' : Heap) (A B : List Nd) (x : Nd) (n : Nat) : Prop where
 chg : Chg (x.lb :: lbN (A ++ B)) h2 h'
 blk : ∀ a ∈ A ++ x :: B, ∃ lk, Blk h' a.lb lk ∧ lk.length = 2 * a.ht
 lv : ∀ hh < 16, LvL h' hh (if hh < n then ons hh 0 (A ++ x :: B) else ons hh 0 (A ++ B))
theorem blk_put {h h' : Heap} {b o m : Nat} {l vs : List Value} (p : Put h h' b (splice l o vs)) {b' : Nat} (hb : ∃ lk, Blk h b' lk ∧ lk.length = m) (e : b' = b → l.length = m) : ∃ lk, Blk h' b' lk ∧ lk.length = m := by
 by_cases hbb : b' = b
 ·exact ⟨_, by rw [hbb]; exact p.blk, by rw [splice_size]; exact e hbb⟩
 ·obtain ⟨lk, ⟨e, he⟩, h2⟩ := hb
  exact ⟨lk, ⟨e, by rw [p.old b' hbb]; exact he⟩, h2⟩
theorem blk_inj {h : Heap} {b : Nat} {l l' : List Value} (h1 : Blk h b l) (h2 : Blk h b l') : l = l' := by
 obtain ⟨e, h1⟩ := h1
 obtain ⟨e', h2⟩ := h2
 rw [h1] at h2
 simp at h2
 exact h2.1
theorem lv_other {h h' : Heap} {n hh : Nat} {L : List (Nd × Nat)} (hne : hh ≠ n) (keep : ∀ b o, o ≠ 2 * n → o ≠ 2 * n + 1 → cell h' b o = cell h b o) (hL : LvL h hh L) : LvL h' hh L :=
 lvl_keep (fun _ _ o ho => keep _ _ (by omega) (by omega)) hL
variable {h2 h h' h'' : Heap} {A B : List Nd} {x p : Nd} {n i : Nat}
theorem PI.mid (hlast : LastOn n A p i) : ∃ l, ons n 0 A = l ++ [(p, i)] ∧ ons n 0 (A ++ B) = l ++ (p, i) :: ons n A.length B ∧
  ons n 0 (A ++ x :: B) = l ++ (p, i) :: (if n < x.ht then (x, A.length) :: up1 (ons n A.length B) else up1 (ons n A.length B)) := by
 obtain ⟨l, e⟩ := hlast
 exact ⟨l, e, by rw [ons_both, e]; simp, by rw [ons_mid, e]; simp⟩
theorem LastOn.memN (hlast : LastOn n A p i) : p ∈ A := mem_of_ons hlast.mem
theorem ons_le {N : List Nd} (hlen : N.length ≤ 65537) {k : Nat} : ∀ y ∈ ons k 0 N, y.2 ≤ 65537 := by
 intro y hy
 have := (List.getElem?_eq_some_iff.1 (ons_mem (a := y.1) (i := y.2) hy).2.2).1
 omega
theorem PI.skip (pi : PI h2 h A B x n) (hn : n < 16) (nd : (x.lb :: lbN (A ++ B)).Nodup) (hlen : (A ++ B).length ≤ 65537) (hlast : LastOn n A p i) (hx : ¬ n < x.ht)
  {lk : List Value} {w w' : Int} (hb : Blk h p.lb lk) (hw : cell h p.lb (2 * n + 1) = some (.int .i64 w)) (hw' : -70000 ≤ w → w ≤ 70000 → w' = w + 1) (hp : Put h h' p.lb (splice lk (2 * n + 1) [.int .i64 w'])) :
  PI h2 h' A B x (n + 1) := by
 obtain ⟨l, e, e1, e2⟩ := PI.mid (B := B) (x := x) hlast
 rw [if_neg hx] at e2
 have hpN : p ∈ A ++ B := List.mem_append_left _ hlast.memN
 obtain ⟨lk0, hb0, hlk⟩ := pi.blk p (by simp [hlast.memN])
 have := blk_inj hb hb0; subst this
 have hpt := hlast.get.1
 have hc := fun b' o' => cell_put (by simp; omega) hb hp b' o'
 simp only [List.length_cons, List.length_nil] at hc
 refine ⟨pi.chg.trans hp.chg (fun k hk => hk) (fun k hk _ => ?_), fun a ha => blk_put hp (pi.blk a ha) fun hab => ?_, fun hh hlt => ?_⟩
 ·simp at hk; subst hk
  exact List.mem_cons_of_mem _ (List.mem_map_of_mem hpN)
 ·obtain ⟨lk1, hb1, hlk1⟩ := pi.blk a ha
  rw [hab] at hb1
  rw [blk_inj hb hb1]; exact hlk1
 ·by_cases hne : hh = n
  ·subst hne
   have hL := pi.lv hh hlt
   rw [if_neg (by omega), e1] at hL
   rw [if_pos (by omega), e2]
   refine lv_skip hL ?_ (by rw [← e1]; exact ons_le hlen) (fun b o hb => ?_) ?_ ⟨w, w', hw, ?_, hw'⟩
   ·rw [← e1]; exact (List.nodup_cons.1 nd).2.sublist (lbs_ons ..)
   ·rw [hc, if_neg (by intro h; exact hb h.1)]
   ·rw [hc, if_neg (by omega)]
   ·rw [hc, if_pos (by omega)]; simp
  ·have hL := pi.lv hh hlt
   have hb : (if hh < n + 1 then ons hh 0 (A ++ x :: B) else ons hh 0 (A ++ B)) = (if hh < n then ons hh 0 (A ++ x :: B) else ons hh 0 (A ++ B)) := by
    by_cases h1 : hh < n
    ·rw [if_pos h1, if_pos (by omega)]
    ·rw [if_neg h1, if_neg (by omega)]
   rw [hb]
   exact lv_other hne (fun b o _ h2 => by rw [hc, if_neg (by omega)]) hL
theorem PI.put (pi : PI h2 h A B x n) (hn : n < 16) (nd : (x.lb :: lbN (A ++ B)).Nodup) (hlen : (A ++ B).length ≤ 65537) (hlast : LastOn n A p i) (hx : n < x.ht)
  {lk xk : List Value} {to : Value} {w w1 w2 : Int} (hb : Blk h p.lb lk) (hxb : Blk h x.lb xk) (hto : cell h p.lb (2 * n) = some to) (hw : cell h p.lb (2 * n + 1) = some (.int .i64 w))
  (hw1 : -70000 ≤ w → w ≤ 70000 → w1 = w - ((A.length : Int) - 1 - i)) (hw2 : w2 = (A.length : Int) - i)
  (hp : Put h h' x.lb (splice xk (2 * n) [to, .int .i64 w1])) (hp2 : Put h' h'' p.lb (splice lk (2 * n) [ptr x.mb, .int .i64 w2])) :
  PI h2 h'' A B x (n + 1) := by
 obtain ⟨l, e, e1, e2⟩ := PI.mid (B := B) (x := x) hlast
 rw [if_pos hx] at e2
 have hpN : p ∈ A ++ B := List.mem_append_left _ hlast.memN
 have hpx : p.lb ≠ x.lb := fun h => (List.nodup_cons.1 nd).1 (by rw [← h]; exact List.mem_map_of_mem hpN)
 obtain ⟨lk0, hb0, hlk⟩ := pi.blk p (by simp [hlast.memN])
 have := blk_inj hb hb0; subst this
 obtain ⟨xk0, hx0, hxk⟩ := pi.blk x (by simp)
 have := blk_inj hxb hx0; subst this
 have hpt := hlast.get.1
 have hb' : Blk h' p.lb lk := by obtain ⟨e, he⟩ := hb; exact ⟨e, by rw [hp.old _ hpx]; exact he⟩
 have hc1 := fun b' o' => cell_put (by simp; omega) hxb hp b' o'
 have hc2 := fun b' o' => cell_put (by simp; omega) hb' hp2 b' o'
 simp only [List.length_cons, List.length_nil] at hc1 hc2
 refine ⟨(pi.chg.trans hp.chg (fun k hk => hk) (fun k hk _ => ?_)).trans hp2.chg (fun k hk => hk) (fun k hk _ => ?_), fun a ha => blk_put hp2 (blk_put hp (pi.blk a ha) fun hab => ?_) fun hab => ?_, fun hh hlt => ?_⟩
 ·simp at hk; subst hk; simp
 ·simp at hk; subst hk
  exact List.mem_cons_of_mem _ (List.mem_map_of_mem hpN)
 ·obtain ⟨lk1, hb1, hlk1⟩ := pi.blk a ha
  rw [hab] at hb1
  rw [blk_inj hxb hb1]; exact hlk1
 ·obtain ⟨lk1, hb1, hlk1⟩ := pi.blk a ha
  rw [hab] at hb1
  rw [blk_inj hb hb1]; exact hlk1
 ·by_cases hne : hh = n
  ·subst hne
   have hL := pi.lv hh hlt
   rw [if_neg (by omega), e1] at hL
   rw [if_pos (by omega), e2]
   refine lv_put (x := x) (K := A.length) hL ?_ ?_ (by rw [← e1]; exact ons_le hlen) (fun b o hb hbx => ?_) ?_ ?_ ?_ ⟨w, w1, hw, ?_, fun h1 h2 => by rw [hw1 h1 h2]; omega⟩
   ·rw [← e1]; exact (List.nodup_cons.1 nd).2.sublist (lbs_ons ..)
   ·rw [← e1]; exact fun h => (List.nodup_cons.1 nd).1 ((lbs_ons ..).subset h)
   ·rw [hc2, if_neg (by intro h; exact hb h.1), hc1, if_neg (by intro h; exact hbx h.1)]
   ·rw [hc2, if_pos (by omega)]; simp
   ·rw [hc2, if_pos (by omega), hw2]; simp
   ·rw [hc2, if_neg (by intro h; exact hpx h.1.symm), hc1, if_pos (by omega), hto]; simp
   ·rw [hc2, if_neg (by intro h; exact hpx h.1.symm), hc1, if_pos (by omega)]; simp
  ·have hL := pi.lv hh hlt
   have hb : (if hh < n + 1 then ons hh 0 (A ++ x :: B) else ons hh 0 (A ++ B)) = (if hh < n then ons hh 0 (A ++ x :: B) else ons hh 0 (A ++ B)) := by
    by_cases h1 : hh < n
    ·rw [if_pos h1, if_pos (by omega)]
    ·rw [if_neg h1, if_neg (by omega)]
   rw [hb]
   exact lv_other hne (fun b o _ h2 => by rw [hc2, if_neg (by omega), hc1, if_neg (by omega)]) hL
end Go.Proofs.YtjnijlnmbjjgpaaGreatDoor.K5
namespace Go.Proofs.YtjnijlnmbjjgpaaGreatDoor.K5
open Go Go.Sx Go.Proofs.YtjnijlnmbjjgpaaGreatDoor C
def blks (rb mpb : Nat) (N : List Nd) : List Nat := rb :: mpb :: (N.map Nd.mb ++ lbN N)
def mapOf (N : List Nd) : List (Value × Value) := N.tail.map fun a => (.string a.r.name, ptr a.mb)
structure RK (h : Heap) (rb mpb : Nat) (N : List Nd) (S : List Rank) : Prop where
 rd : RD h rb mpb N
 dis : (blks rb mpb N).Nodup
 isS : recs N = S
 map : ∃ es c, MapB h mpb es c ∧ (es.map fun e => (e.key, e.val)).Perm (mapOf N)
 sorted : Sorted S
 names : Names S
 tab : TabH h
 no1 : 3 ∉ blks rb mpb N
theorem TabH.chg {S : List Nat} {h h' : Heap} (ht : TabH h) (hc : Chg S h h') (hn : 3 ∉ S) : TabH h' := fun i hi =>
 let ⟨v, h0, h1, h2⟩ := ht i hi
 ⟨v, h0, h1, cell_chg h2 hc hn⟩
theorem RK.ext {h h' : Heap} {rb mpb : Nat} {N : List Nd} {S : List Rank} (rk : RK h rb mpb N S) (hc : Chg [] h h') : RK h' rb mpb N S :=
 ⟨rk.rd.ext hc, rk.dis, rk.isS, let ⟨es, c, h1, h2⟩ := rk.map; ⟨es, c, h1.chg hc (by simp), h2⟩, rk.sorted, rk.names, rk.tab.chg hc (by simp), rk.no1⟩
theorem RK.len {h : Heap} {rb mpb : Nat} {N : List Nd} {S : List Rank} (rk : RK h rb mpb N S) : N.length = S.length + 1 := by
 obtain ⟨hd, mem, rfl, _, _⟩ := rk.rd.r
 rw [← rk.isS]; simp [recs]
theorem RK.lt {h : Heap} {rb mpb : Nat} {N : List Nd} {S : List Rank} (rk : RK h rb mpb N S) : ∀ b ∈ blks rb mpb N, b < h.size := by
 intro b hb
 obtain ⟨hd, mem, hN, _, hrb⟩ := rk.rd.r
 obtain ⟨es, c, hm, _⟩ := rk.map
 simp only [blks, List.mem_cons, List.mem_append, lbN, List.mem_map] at hb
 rcases hb with rfl | rfl | ⟨a, ha, rfl⟩ | ⟨a, ha, rfl⟩
 ·exact hrb.lt
 ·exact hm.lt
 ·exact (rk.rd.ok a ha).m.lt
 ·obtain ⟨lk, hl, _⟩ := (rk.rd.ok a ha).l
  exact hl.lt
theorem dis_parts {rb mpb : Nat} {N : List Nd} (hd : (blks rb mpb N).Nodup) : rb ∉ lbN N ∧ mpb ∉ lbN N ∧ (∀ a ∈ N, a.mb ∉ lbN N) ∧ (lbN N).Nodup ∧ (∀ a ∈ N, a.mb ≠ mpb) ∧ rb ≠ mpb ∧ ∀ a ∈ N, a.mb ≠ rb := by
 simp only [blks, List.nodup_cons, List.mem_cons, List.mem_append, List.nodup_append, not_or] at hd
 obtain ⟨⟨h0, h1, h2⟩, ⟨h3, h4⟩, h5, h6, h7⟩ := hd
 refine ⟨h2, h4, fun a ha h => ?_, h6, fun a ha e => h3 (by rw [← e]; exact List.mem_map_of_mem ha), h0, fun a ha e => h1 (by rw [← e]; exact List.mem_map_of_mem ha)⟩
 exact h7 a.mb (List.mem_map_of_mem ha) a.mb h rfl
theorem lbN_sub {rb mpb : Nat} {N : List Nd} : ∀ b ∈ lbN N, b ∈ blks rb mpb N := fun b hb => by simp [blks, hb]
theorem blks_mid {rb mpb : Nat} {A B : List Nd} {x : Nd} : (blks rb mpb (A ++ x :: B)).Perm (x.mb :: x.lb :: blks rb mpb (A ++ B)) := by
 have h1 : ((A ++ x :: B).map Nd.mb ++ lbN (A ++ x :: B)).Perm (x.mb :: x.lb :: ((A ++ B).map Nd.mb ++ lbN (A ++ B))) := by
  have e1 : ((A ++ x :: B).map Nd.mb).Perm (x.mb :: (A ++ B).map Nd.mb) := by simp [List.perm_middle]
  have e2 : (lbN (A ++ x :: B)).Perm (x.lb :: lbN (A ++ B)) := by simp [lbN, List.perm_middle]
  refine (e1.append e2).trans ?_
  rw [List.cons_append]
  exact List.perm_middle.cons _
 unfold blks
 refine ((h1.cons mpb).cons rb).trans ?_
 have e3 : ∀ (a b c d : Nat) (l : List Nat), (a :: b :: c :: d :: l).Perm (c :: d :: a :: b :: l) := by
  intro a b c d l
  have := (List.perm_append_comm (l₁ := [a, b]) (l₂ := [c, d])).append_right l
  simpa using this
 exact e3 ..
theorem split_at {h : Heap} {rb mpb : Nat} {N : List Nd} {S : List Rank} (rk : RK h rb mpb N S) {K : Nat} (hK : K ≤ S.length) :
  N = N.take (K + 1) ++ N.drop (K + 1) ∧ (N.take (K + 1)).length = K + 1 ∧ (∃ hd A', N.take (K + 1) = hd :: A' ∧ A'.map Nd.r = S.take K) ∧ (N.drop (K + 1)).map Nd.r = S.drop K := by
 have hl := rk.len
 obtain ⟨hd, mem, rfl, _, _⟩ := rk.rd.r
 have hr : mem.map Nd.r = S := rk.isS
 simp at hl
 refine ⟨(List.take_append_drop ..).symm, by simp; omega, ⟨hd, mem.take K, rfl, ?_⟩, ?_⟩
 ·rw [List.map_take, hr]
 ·rw [List.drop_succ_cons, List.map_drop, hr]
theorem RK.put {h h' : Heap} {rb mpb : Nat} {A B : List Nd} {S : List Rank} {x : Nd} (rk : RK h rb mpb (A ++ B) S) (hA : A ≠ []) {es : List MapEntry} {c c' : Nat} (hmap : (es.map fun e => (e.key, e.val)).Perm (mapOf (A ++ B)))
  (hrd : RD h' rb mpb (A ++ x :: B)) (hm : MapB h' mpb (es ++ [{ key := .string x.r.name, val := ptr x.mb, born := c }]) c') (hrec : recs (A ++ x :: B) = insR x.r S) (hn : ∀ y ∈ S, y.name ≠ x.r.name)
  (hf : x.mb ∉ blks rb mpb (A ++ B) ∧ x.lb ∉ blks rb mpb (A ++ B) ∧ x.mb ≠ x.lb) (ht : TabH h') (h1 : x.mb ≠ 3 ∧ x.lb ≠ 3) : RK h' rb mpb (A ++ x :: B) (insR x.r S) where
 rd := hrd
 dis := by
  rw [blks_mid.nodup_iff, List.nodup_cons, List.nodup_cons]
  exact ⟨by simp [hf.2.2, hf.1], hf.2.1, rk.dis⟩
 isS := hrec
 map := by
  refine ⟨_, _, hm, ?_⟩
  obtain ⟨hd, A', rfl⟩ := List.exists_cons_of_ne_nil hA
  simp only [List.map_append, List.map_cons, List.map_nil]
  have e : (mapOf (hd :: A' ++ x :: B)).Perm ((.string x.r.name, ptr x.mb) :: mapOf (hd :: A' ++ B)) := by
   simp only [mapOf, List.cons_append, List.tail_cons, List.map_append, List.map_cons]
   exact List.perm_middle
  refine (hmap.append_right _).trans (List.Perm.trans ?_ e.symm)
  exact List.perm_append_comm
 sorted := insR_sorted rk.sorted hn
 names := insR_names rk.names hn
 tab := ht
 no1 := by
  rw [blks_mid.mem_iff]
  simp only [List.mem_cons, not_or]
  exact ⟨h1.1.symm, h1.2.symm, rk.no1⟩
theorem lead_ptr {h : Heap} {hh : Nat} {a : Nd} {i : Nat} {L : List (Nd × Nat)} (hl : lead h hh a i L) : ∃ q w, link h a hh (.pointer q) w := by
 cases L with
 |nil => obtain ⟨w, hw⟩ := hl; exact ⟨none, w, hw⟩
 |cons y r => obtain ⟨b, k⟩ := y; exact ⟨_, _, hl⟩
theorem PI.link {h2 h : Heap} {A B : List Nd} {x p : Nd} {n i : Nat} (pi : PI h2 h A B x n) (hn : n < 16) (hlast : LastOn n A p i) : ∃ q w, link h p n (.pointer q) w := by
 obtain ⟨l, e, e1, e2⟩ := PI.mid (B := B) (x := x) hlast
 have hL := pi.lv n hn
 rw [if_neg (by omega), e1] at hL
 exact lead_ptr (lvl_app.1 hL).2.1
theorem last_low {A : List Nd} (hA : ∀ a ∈ A, 1 ≤ a.ht) {p : Nd} {i : Nat} (hl : LastOn 0 A p i) : i = A.length - 1 := by
 obtain ⟨l, e⟩ := hl
 have hmem : (p, i) ∈ ons 0 0 A := by rw [e]; simp
 have h1 := (ons_mem hmem).2.2
 have hi := (List.getElem?_eq_some_iff.1 h1).1
 have hlast : A[A.length - 1]? = some (A[A.length - 1]'(by omega)) := List.getElem?_eq_getElem (by omega)
 have hm2 := mem_ons (hh := 0) (k := 0) (hA _ (List.mem_of_getElem? hlast)) hlast
 have hr := @ons_rise 0 0 A
 rw [e] at hr hm2
 rw [List.pairwise_append] at hr
 rcases List.mem_append.1 hm2 with h | h
 ·have := hr.2.2 _ h (p, i) (by simp)
  simp only at this; omega
 ·simp at h; omega
theorem put_calls {h : Heap} {rb mpb : Nat} {N : List Nd} {S : List Rank} (rk : RK h rb mpb N S) (x : Rank) (coin : Int) (hn : ∀ y ∈ S, y.name ≠ x.name) (hlen : S.length < 65536) :
  CallsH Tryz.prog 239 [ptr rb, .agg ⟨encR x⟩, .int .i64 coin] h (Ret fun _ h' => ∃ N', RK h' rb mpb N' (insR x S) ∧ Chg (blks rb mpb N) h h' ∧ ∀ b ∈ blks rb mpb N', b ∈ blks rb mpb N ∨ h.size ≤ b) := by
 have hK : upto x S ≤ S.length := upto_le x S
 have hNl := rk.len
 obtain ⟨hN, hAl, ⟨hd, A', hA', hAr⟩, hBr⟩ := split_at rk hK
 generalize N.take (upto x S + 1) = A at hN hAl hA'
 generalize N.drop (upto x S + 1) = B at hN hBr
 subst hN
 have hAne : A ≠ [] := by rw [hA']; simp
 refine f239_calls (by simp) ?_
 intro b4 h1 g1
 refine Ei (encR x) (Ai rfl (Ai (cells_blk g1.blk) ?_))
 refine call_ret (less_calls x) ?_
 rintro _ h2 ⟨bl, rfl, hbl, Bl, hc2⟩
 have hc02 : Chg [] h h2 := g1.chg.nil hc2
 have rk2 := rk.ext hc02
 have ask := less_ask Bl (N := A ++ B) (by rw [rk.isS]; exact rk.sorted)
 rw [rk.isS, ← hAl] at ask
 refine call_ret (down_calls rk2.rd rfl hAne ask) ?_
 rintro _ h3 ⟨pb, rfl, hpb, ⟨pl, Bp, hpath⟩, hc3⟩
 have rk3 := rk2.ext hc3
 have B43 : Blk h3 b4 (encR x) := (g1.blk.chg hc2 (by simp)).chg hc3 (by simp)
 refine Ei (encR x) (Ai rfl (Ai (cells_blk B43) ?_))
 obtain ⟨hd0, mem0, hN0, hht0, hrb⟩ := rk3.rd.r
 refine Ei _ (Ai (cell_blk hrb rfl) ?_)
 obtain ⟨es, cl, hmap, hperm⟩ := rk3.map
 refine Ei es (Ei cl (Ai hmap ?_))
 refine Ai rfl (fun z hz => ?_)
 intro u hu
 refine Ai rfl (fun c hc => ?_)
 have hc := and_one hc
 refine callq_ret (tz_calls rk3.tab u) ?_
 rintro _ h4 ⟨⟨t, rfl, t0, t1⟩, rfl⟩
 refine Ai (Ext.refl _) ?_
 refine Ai rfl (fun s hs => ?_)
 have hs := add_in hs (by omega) (by omega)
 refine Ai rfl ?_
 refine Ai rfl (fun m hm => ?_)
 have hm := add_in hm (by omega) (by omega)
 have hm1 : 1 ≤ m ∧ m ≤ 16 := by omega
 refine Ai (by omega) (Ai (Int.le_refl _) (Ai (by omega) (Ai (by omega) ?_)))
 intro xl h5 g5
 intro xb h6 g6
 let x' : Nd := ⟨xb, xl, m.toNat, x⟩
 have hxh : x'.ht = m.toNat := rfl
 have hxl : x'.lb = xl := rfl
 have hc46 : Chg [] h4 h6 := g5.chg.nil g6.chg
 have hc06 : Chg [] h h6 := (hc02.nil hc3).nil hc46
 have rk6 := rk3.ext hc46
 have BX : Blk h6 xb x'.row := g6.blk
 have BL : Blk h6 xl ((List.replicate m.toNat [.pointer none, .int .i64 0]).flatten) := g5.blk.chg g6.chg (by simp)
 have B46 := B43.chg hc46 (by simp)
 have Bp6 := Bp.chg hc46 (by simp)
 have hrb6 := hrb.chg hc46 (by simp)
 have hmap6 := hmap.chg hc46 (by simp)
 -- which blocks are which
 have s1 := g1.id; have s1' := g1.size; have s5 := g5.id; have s5' := g5.size; have s6 := g6.id; have s6' := g6.size
 have z1 := hc02.size; have z2 := hc2.size; have z3 := hc3.size
 have old : ∀ b ∈ blks rb mpb (A ++ B), b < h.size := rk.lt
 obtain ⟨d1, d2, d3, d4, d5, d6, d7⟩ := dis_parts rk.dis
 have lold : ∀ b ∈ lbN (A ++ B), b < h.size := fun b hb => old b (lbN_sub b hb)
 have nd : (x'.lb :: lbN (A ++ B)).Nodup := List.nodup_cons.2 ⟨fun hb => by have := lold _ hb; simp only [x'] at this; omega, d4⟩
 have hlen' : (A ++ B).length ≤ 65537 := rk.rd.len
 have hrb6r : rb ∉ x'.lb :: lbN (A ++ B) := by
  simp only [List.mem_cons, not_or]; exact ⟨by have := old rb (by simp [blks]); simp only [x']; omega, d1⟩
 have fresh6 : ∀ b, h.size ≤ b → b ≠ xl → b ∉ x'.lb :: lbN (A ++ B) := by
  intro b hb hne
  simp only [List.mem_cons, not_or]; exact ⟨hne, fun hb' => by have := lold _ hb'; omega⟩
 have hhead : (hd0 :: mem0).map Nd.r = (A ++ B).map Nd.r := by rw [hN0]
 refine loop_intro (fun n : Nat => [(0, ptr rb), (4, ptr b4), (6, ptr pb), (7, ptr xb), (32, .int .i64 n)]) (fun n h' => n ≤ 16 ∧ PI h6 h' A B x' n) (fun n => 16 - n) 0 ⟨rfl, rfl, rfl, rfl, rfl, trivial⟩
  ⟨Nat.zero_le _, ⟨(Chg.refl h6).mono (by simp), fun a ha => ?_, fun hh hlt => ?_⟩⟩ ?_
 ·rcases List.mem_append.1 ha with ha | ha
  ·exact (rk6.rd.ok a (by simp [ha])).l
  ·rcases List.mem_cons.1 ha with rfl | ha
   ·exact ⟨_, BL, by simp [x']; omega⟩
   ·exact (rk6.rd.ok a (by simp [ha])).l
 ·rw [if_neg (by omega)]; exact rk6.rd.lv hh hlt
 rintro n h7 ⟨hn16, pi⟩
 have BX7 : Blk h7 xb x'.row := BX.chg pi.chg (fresh6 xb (by omega) (by omega))
 have Bp7 := Bp6.chg pi.chg (fresh6 pb (by omega) (by have := Bp.lt; omega))
 have B47 := B46.chg pi.chg (fresh6 b4 (by omega) (by have := B43.lt; omega))
 refine Ai rfl (Ai (fun ht => ?_) (fun ht => ?_))
 ·have hn : n < 16 := by omega
  obtain ⟨p, i, hlast, hp1, hp2⟩ := hpath n hn
  obtain ⟨p0, i0, hlast0, _, hp02⟩ := hpath 0 (by omega)
  obtain ⟨q, w, hlk⟩ := pi.link hn hlast
  have hpA := hlast.memN
  have okp6 := rk6.rd.ok p (List.mem_append_left _ hpA)
  have Pm7 : Blk h7 p.mb p.row := okp6.m.chg pi.chg (by
   simp only [List.mem_cons, not_or]
   have := old p.mb (by simp only [blks, List.mem_cons, List.mem_append]; exact Or.inr (Or.inr (Or.inl (List.mem_map_of_mem (List.mem_append_left _ hpA)))))
   exact ⟨by simp only [x']; omega, d3 p (List.mem_append_left _ hpA)⟩)
  obtain ⟨lk, Bl7, hlkl⟩ := pi.blk p (List.mem_append_left _ hpA)
  obtain ⟨xk, Bxl7, hxkl⟩ := pi.blk x' (by simp)
  have hpt := hlast.get.1
  have hi : i < A.length := (List.getElem?_eq_some_iff.1 hlast.get.2).1
  have hi0 : i0 = A.length - 1 := last_low (fun a ha => (rk6.rd.ok a (List.mem_append_left _ ha)).pos) hlast0
  have en : 0 + 0 + n * 1 = n := by omega
  have en2 : 0 + 16 + n * 1 = 16 + n := by omega
  have em : 0 + n * 2 = 2 * n := by omega
  refine Ai (by omega) (Ai (by omega) (Ei (ptr p.mb) (Ai ?_ ?_)))
  ·exact cell_blk Bp7 (by rw [← hp1]; exact congrArg (fun o => pl[o]?) en)
  refine Ei _ (Ai (cell_blk Pm7 rfl) ?_)
  refine Ai (by omega) (Ai (by omega) ?_)
  refine Ei _ (Ai (cell_blk BX7 rfl) ?_)
  refine Ai rfl (Ai (fun hge => ?_) (fun hge => ?_))
  ·refine Ei (.int .i64 w) (Ai ?_ ?_)
   ·exact Eq.trans (congrArg (fun o => cell h7 p.lb (o + 1)) em) hlk.2
   refine Ai rfl (fun w' hw' => ?_)
   refine Ei lk (Ai Bl7 (Ai (by omega) (Ai rfl (Ai (ones1 rfl) ?_))))
   intro h8 p8
   have p8 : Put h7 h8 p.lb (splice lk (0 + n * 2 + 1) [.int .i64 w']) := p8
   rw [em] at p8
   refine Ai rfl (fun z3 hz3 => ?_)
   have hz3 := add_in hz3 (by omega) (by omega)
   subst hz3
   refine Ai rfl (Ei (n + 1) (Ai ?_ (Ai ?_ ?_)))
   ·exact ⟨rfl, rfl, rfl, rfl, rfl, trivial⟩
   ·exact ⟨by omega, pi.skip hn nd hlen' hlast (by omega) Bl7 hlk.2 (fun a b => add_in hw' (by omega) (by omega)) p8⟩
   ·omega
  ·refine Ai (by decide) (Ai (by decide) (Ei (.int .i64 i0) (Ai (cell_blk Bp7 hp02) ?_)))
   refine Ai (by omega) (Ai (by omega) (Ei (.int .i64 i) (Ai ?_ ?_)))
   ·exact cell_blk Bp7 (by rw [← hp2]; exact congrArg (fun o => pl[o]?) en2)
   refine Ai rfl (fun ov hov => ?_)
   have hov := sub_in hov (by omega) (by omega)
   refine Ei _ (Ai (cell_blk BX7 rfl) ?_)
   refine Ei (.pointer q) (Ai ?_ ?_)
   ·exact Eq.trans (congrArg (fun o => cell h7 p.lb (o + 0)) em) hlk.1
   refine Ei (.int .i64 w) (Ai ?_ ?_)
   ·exact Eq.trans (congrArg (fun o => cell h7 p.lb (o + 1)) em) hlk.2
   refine Ai rfl (fun w1 hw1 => ?_)
   refine Ai (by omega) (Ai (by omega) ?_)
   refine Ei xk (Ai Bxl7 (Ai (by omega) (Ai rfl (Ai (ones2 rfl rfl) ?_))))
   intro h8 p8
   have p8 : Put h7 h8 xl (splice xk (0 + n * 2) [.pointer q, .int .i64 w1]) := p8
   refine Ai rfl (fun w2 hw2 => ?_)
   have hw2 := add_in hw2 (by omega) (by omega)
   have hpx : p.lb ≠ xl := by
    intro e
    have := lold p.lb (List.mem_map_of_mem (List.mem_append_left _ hpA))
    omega
   have Bl8 : Blk h8 p.lb lk := by
    obtain ⟨e, he⟩ := Bl7
    exact ⟨e, by rw [p8.old _ hpx]; exact he⟩
   refine Ei lk (Ai Bl8 (Ai (by omega) (Ai rfl (Ai (ones2 rfl rfl) ?_))))
   intro h9 p9
   have p9 : Put h8 h9 p.lb (splice lk (0 + n * 2) [ptr x'.mb, .int .i64 w2]) := p9
   rw [em] at p8 p9
   refine Ai rfl (fun z3 hz3 => ?_)
   have hz3 := add_in hz3 (by omega) (by omega)
   subst hz3
   refine Ai rfl (Ei (n + 1) (Ai ?_ (Ai ?_ ?_)))
   ·exact ⟨rfl, rfl, rfl, rfl, rfl, trivial⟩
   ·refine ⟨by omega, pi.put hn nd hlen' hlast (by omega) Bl7 Bxl7 hlk.1 hlk.2 (w1 := w1) (w2 := w2) (fun a b => ?_) (by omega) p8 p9⟩
    rw [sub_in hw1 (by omega) (by omega)]; omega
   ·omega
 ·have hn : n = 16 := by omega
  subst hn
  have hrb7 : Blk h7 rb [ptr hd0.mb, .map (some mpb)] := hrb6.chg pi.chg hrb6r
  have hmn : mpb ∉ x'.lb :: lbN (A ++ B) := by
   simp only [List.mem_cons, not_or]; exact ⟨by have := old mpb (by simp [blks]); omega, d2⟩
  have hmap7 : MapB h7 mpb es cl := hmap6.chg pi.chg hmn
  have hkeys : ∀ e ∈ es, ∃ a ∈ (A ++ B).tail, e.key = .string a.r.name := by
   intro e he
   have h1 : (e.key, e.val) ∈ mapOf (A ++ B) := hperm.mem_iff.1 (List.mem_map_of_mem (f := fun e : MapEntry => (e.key, e.val)) he)
   obtain ⟨a, ha, hae⟩ := List.mem_map.1 h1
   exact ⟨a, ha, (congrArg Prod.fst hae).symm⟩
  have hfits : ∀ e ∈ es, fits .str e.key = true := fun e he => by
   obtain ⟨a, _, h2⟩ := hkeys e he; rw [h2]; rfl
  have hmf : mfind (.string x.name) es 0 = none := by
   cases hm : mfind (.string x.name) es 0 with
   |none => rfl
   |some jv =>
    obtain ⟨j, v⟩ := jv
    obtain ⟨_, e, he, hek, _⟩ := mfind_spec (k := .str) rfl es 0 j v hfits hm
    obtain ⟨a, ha, hae⟩ := hkeys e (List.mem_of_getElem? he)
    rw [hae] at hek
    have : a.r.name = x.name := by simpa using hek
    exact absurd this (hn a.r (by rw [← rk.isS]; exact List.mem_map_of_mem ha))
  refine Ei _ (Ai (cell_blk hrb7 rfl) ?_)
  refine Ei _ (Ai (cell_blk B47 rfl) ?_)
  refine Ai rfl (Ei es (Ei cl (Ai hmap7 (Ai hfits ?_))))
  rw [hmf]
  intro h8 p8
  have hc68 : Chg (mpb :: x'.lb :: lbN (A ++ B)) h6 h8 := pi.chg.trans p8.chg (fun k hk => by simp [hk]) (fun k hk _ => by simp at hk; simp [hk])
  have hrecs : recs (A ++ x' :: B) = insR x S := by
   rw [hA']
   simp only [recs, List.cons_append, List.tail_cons, List.map_append, List.map_cons, hAr, hBr]
   rfl
  have hrd : RD h8 rb mpb (A ++ x' :: B) := by
   refine ⟨?_, fun a ha => ?_, fun hh hlt => ?_, ?_⟩
   ·have he : hd0 = hd := by rw [hA'] at hN0; simp at hN0; exact hN0.1.symm
    refine ⟨hd0, A' ++ x' :: B, by rw [hA', he]; rfl, hht0, hrb7.chg p8.chg (by simp; exact d6)⟩
   ·have hmb : a.mb ∉ mpb :: x'.lb :: lbN (A ++ B) ∧ Blk h6 a.mb a.row ∧ a.lb ≠ mpb := by
     by_cases hax : a = x'
     ·subst hax
      simp only [List.mem_cons, not_or]
      have hm0 := old mpb (by simp [blks])
      refine ⟨⟨by show xb ≠ mpb; omega, by show xb ≠ xl; omega, fun hb => by have := lold _ hb; have : xb < h.size := this; omega⟩, BX, by show xl ≠ mpb; omega⟩
     ·have haN : a ∈ A ++ B := by
       rcases List.mem_append.1 ha with ha | ha
       ·simp [ha]
       ·rcases List.mem_cons.1 ha with h | h
        ·exact absurd h hax
        ·simp [h]
      have hm0 : a.mb < h.size := old a.mb (by simp only [blks, List.mem_cons, List.mem_append]; exact Or.inr (Or.inr (Or.inl (List.mem_map_of_mem haN))))
      simp only [List.mem_cons, not_or]
      exact ⟨⟨d5 a haN, by omega, d3 a haN⟩, (rk6.rd.ok a haN).m, fun e => d2 (by rw [← e]; exact List.mem_map_of_mem haN)⟩
    obtain ⟨lk, h1, h2⟩ := pi.blk a ha
    have hht : 1 ≤ a.ht ∧ a.ht ≤ 16 := by
     rcases List.mem_append.1 ha with ha | ha
     ·exact ⟨(rk6.rd.ok a (by simp [ha])).pos, (rk6.rd.ok a (by simp [ha])).top⟩
     ·rcases List.mem_cons.1 ha with h | h
      ·subst h; omega
      ·exact ⟨(rk6.rd.ok a (by simp [h])).pos, (rk6.rd.ok a (by simp [h])).top⟩
    exact ⟨hmb.2.1.chg hc68 hmb.1, ⟨lk, h1.chg p8.chg (by simp; exact hmb.2.2), h2⟩, hht.1, hht.2⟩
   ·have hL := pi.lv hh hlt
    rw [if_pos hlt] at hL
    refine lvl_keep (fun y hy o _ => ?_) hL
    have hyN := mem_of_ons (a := y.1) (i := y.2) hy
    have hne : y.1.lb ≠ mpb := by
     rcases List.mem_append.1 hyN with ha | ha
     ·exact fun e => d2 (by rw [← e]; exact List.mem_map_of_mem (List.mem_append_left _ ha))
     ·rcases List.mem_cons.1 ha with h | h
      ·rw [h]; have := old mpb (by simp [blks]); omega
      ·exact fun e => d2 (by rw [← e]; exact List.mem_map_of_mem (List.mem_append_right _ h))
    unfold cell
    rw [p8.old _ hne]
   ·simp at hNl ⊢; omega
  have h1lt : 3 < h.size := by
   obtain ⟨v, _, _, hv⟩ := rk.tab 0 (by omega)
   exact cell_lt hv
  have hno1 : 3 ∉ mpb :: x'.lb :: lbN (A ++ B) := by
   have := rk.no1
   simp only [blks, List.mem_cons, List.mem_append, not_or] at this
   simp only [List.mem_cons, not_or]
   exact ⟨this.2.1, by omega, this.2.2.2⟩
  refine Ei (A ++ x' :: B) (Ai ?_ (Ai ?_ ?_))
  ·refine rk.put hAne hperm hrd p8.blk hrecs hn ⟨fun hb => ?_, fun hb => ?_, ?_⟩ ((rk6.tab).chg hc68 hno1) ⟨?_, ?_⟩
   ·have : xb < h.size := old _ hb
    omega
   ·have : xl < h.size := old _ hb
    omega
   ·show xb ≠ xl; omega
   ·show xb ≠ 3; omega
   ·show xl ≠ 3; omega
  ·refine hc06.trans hc68 (by simp) (fun k hk hlt => ?_)
   simp only [List.mem_cons] at hk
   rcases hk with rfl | rfl | hk
   ·simp [blks]
   ·omega
   ·exact lbN_sub k hk
  ·intro b hb
   rw [blks_mid.mem_iff] at hb
   simp only [List.mem_cons] at hb
   have e1 : x'.mb = xb := rfl
   rcases hb with hb | hb | hb
   ·right; omega
   ·right; omega
   ·left; simpa using hb
variable {h2 h h' : Heap} {A B : List Nd} {x p : Nd} {n i : Nat}
end Go.Proofs.YtjnijlnmbjjgpaaGreatDoor.K5
namespace Go.Proofs.YtjnijlnmbjjgpaaGreatDoor.K5
open Go Go.Sx Go.Proofs.YtjnijlnmbjjgpaaGreatDoor C
theorem RK.look {h : Heap} {rb mpb : Nat} {N : List Nd} {S : List Rank} (rk : RK h rb mpb N S) (nm : ByteArray) :
  ∃ es c, MapB h mpb es c ∧ (∀ e ∈ es, fits .str e.key = true) ∧ es.length = S.length ∧
   (((∀ y ∈ S, y.name ≠ nm) ∧ mfind (.string nm) es 0 = none) ∨ ∃ A m B j, N = A ++ m :: B ∧ A ≠ [] ∧ m.r.name = nm ∧ mfind (.string nm) es 0 = some (j, ptr m.mb)) := by
 obtain ⟨es, cl, hmap, hperm⟩ := rk.map
 obtain ⟨hd, mem, hN, _, _⟩ := rk.rd.r
 have hS : S = mem.map Nd.r := by rw [← rk.isS, hN]; rfl
 have hlen := hperm.length_eq
 have hkeys : ∀ e ∈ es, ∃ a ∈ mem, e.key = .string a.r.name ∧ e.val = ptr a.mb := by
  intro e he
  have h1 : (e.key, e.val) ∈ mapOf N := hperm.mem_iff.1 (List.mem_map_of_mem (f := fun e : MapEntry => (e.key, e.val)) he)
  rw [hN] at h1
  obtain ⟨a, ha, hae⟩ := List.mem_map.1 h1
  exact ⟨a, ha, (congrArg Prod.fst hae).symm, (congrArg Prod.snd hae).symm⟩
 have hfits : ∀ e ∈ es, fits .str e.key = true := fun e he => by
  obtain ⟨a, _, h2, _⟩ := hkeys e he; rw [h2]; rfl
 refine ⟨es, cl, hmap, hfits, by rw [hS]; simpa [mapOf, hN] using hlen, ?_⟩
 cases hm : mfind (.string nm) es 0 with
 |none =>
  refine Or.inl ⟨fun y hy e => ?_, rfl⟩
  have hno := mfind_none (k := .str) rfl es 0 hfits hm
  rw [hS] at hy
  obtain ⟨a, ha, rfl⟩ := List.mem_map.1 hy
  have hin : ((.string a.r.name, ptr a.mb) : Value × Value) ∈ es.map fun e => (e.key, e.val) := by
   rw [hperm.mem_iff, hN]; exact List.mem_map_of_mem (f := fun a : Nd => ((.string a.r.name, ptr a.mb) : Value × Value)) ha
  obtain ⟨x, hx, hxe⟩ := List.mem_map.1 hin
  exact hno x hx (by rw [← e]; exact congrArg Prod.fst hxe)
 |some jv =>
  obtain ⟨j, v⟩ := jv
  obtain ⟨_, e, hej, hek, hev⟩ := mfind_spec (k := .str) rfl es 0 j v hfits hm
  obtain ⟨a, ha, hak, hav⟩ := hkeys e (List.mem_of_getElem? hej)
  obtain ⟨A, B, rfl⟩ := List.append_of_mem ha
  rw [hek] at hak
  refine Or.inr ⟨hd :: A, a, B, j, hN, by simp, (by simpa using hak.symm), ?_⟩
  rw [← hev, hav]
def RS (h : Heap) (v : Value) (S : List Rank) (fp : List Nat) : Prop := ∃ rb mpb N, v = ptr rb ∧ RK h rb mpb N S ∧ fp = blks rb mpb N
theorem RS.ext {h h' : Heap} {v : Value} {S : List Rank} {fp : List Nat} (rs : RS h v S fp) (hc : Chg [] h h') : RS h' v S fp := by
 obtain ⟨rb, mpb, N, h1, h2, h3⟩ := rs
 exact ⟨rb, mpb, N, h1, h2.ext hc, h3⟩
theorem RK.there {h : Heap} {rb mpb : Nat} {A B : List Nd} {m : Nd} {S : List Rank} (rk : RK h rb mpb (A ++ m :: B) S) (hA : A ≠ []) :
  S = (A.tail.map Nd.r) ++ m.r :: B.map Nd.r := by
 obtain ⟨hd, A', rfl⟩ := List.exists_cons_of_ne_nil hA
 rw [← rk.isS]; simp [recs]
theorem score_calls {h : Heap} {v : Value} {S : List Rank} {fp : List Nat} (rs : RS h v S fp) (nm : ByteArray) :
  CallsH Tryz.prog 237 [v, .string nm] h (Ret fun u h' => h' = h ∧ (((∀ y ∈ S, y.name ≠ nm) ∧ u = .tuple #[.int .i64 0, .bool false]) ∨ ∃ a y b, S = a ++ y :: b ∧ y.name = nm ∧ u = .tuple #[.int .i64 y.score, .bool true])) := by
 obtain ⟨rb, mpb, N, rfl, rk, rfl⟩ := rs
 obtain ⟨hd0, mem0, hN0, hht0, hrb⟩ := rk.rd.r
 obtain ⟨es, cl, hmap, hfits, hel, hl⟩ := rk.look nm
 refine f237_calls (by simp) ?_
 refine call_ret (none_calls hrb) ?_
 rintro _ h1 ⟨rfl, rfl⟩
 refine Ei _ (Ai (cell_blk hrb rfl) ?_)
 refine Ai rfl (Ei es (Ei cl (Ai hmap (Ai hfits ?_))))
 rcases hl with ⟨hno, hm⟩ | ⟨A, m, B, j, rfl, hA, hmn, hm⟩
 ·rw [hm]
  exact Ai rfl (Or.inl ⟨hno, rfl⟩)
 ·rw [hm]
  have Mm := (rk.rd.ok m (by simp)).m
  refine Ei _ (Ai (cell_blk Mm rfl) ?_)
  exact Ai rfl (Or.inr ⟨_, _, _, rk.there hA, hmn, rfl⟩)
theorem rank_calls {h : Heap} {v : Value} {S : List Rank} {fp : List Nat} (rs : RS h v S fp) (nm : ByteArray) :
  CallsH Tryz.prog 180 [v, .string nm] h (Ret fun u h' => Chg [] h h' ∧ (((∀ y ∈ S, y.name ≠ nm) ∧ u = .tuple #[.int .i64 0, .bool false]) ∨ ∃ a y b, S = a ++ y :: b ∧ y.name = nm ∧ u = .tuple #[.int .i64 a.length, .bool true])) := by
 obtain ⟨rb, mpb, N, rfl, rk, rfl⟩ := rs
 obtain ⟨hd0, mem0, hN0, hht0, hrb⟩ := rk.rd.r
 obtain ⟨es, cl, hmap, hfits, hel, hl⟩ := rk.look nm
 refine f180_calls (by simp) ?_
 refine call_ret (none_calls hrb) ?_
 rintro _ h1 ⟨rfl, rfl⟩
 refine Ei _ (Ai (cell_blk hrb rfl) ?_)
 refine Ai rfl (Ei es (Ei cl (Ai hmap (Ai hfits ?_))))
 rcases hl with ⟨hno, hm⟩ | ⟨A, m, B, j, rfl, hA, hmn, hm⟩
 ·rw [hm]
  exact Ai (Chg.refl h1) (Or.inl ⟨hno, rfl⟩)
 ·rw [hm]
  have okm := rk.rd.ok m (by simp)
  have hS := rk.there hA
  refine Ei (encR m.r) (Ai rfl (Ai (cells_part (l := m.row) okm.m ?_) ?_))
  ·intro j v hj
   rw [Nat.zero_add]
   unfold Nd.row
   rw [List.getElem?_append_left (List.getElem?_eq_some_iff.1 hj).1]; exact hj
  refine call_ret (less_calls m.r) ?_
  rintro _ h2 ⟨bl, rfl, hbl, Bl, hc2⟩
  have rk2 := rk.ext hc2
  have hup : upto m.r S = A.tail.length := by
   have hs := rk.sorted
   rw [hS] at hs ⊢
   rw [upto_mid hs]; simp
  have hAl : A.length = upto m.r S + 1 := by
   rw [hup]; cases A with
   |nil => exact absurd rfl hA
   |cons a A => simp
  have ask := less_ask Bl (N := A ++ m :: B) (by rw [rk.isS]; exact rk.sorted)
  rw [rk.isS, ← hAl] at ask
  refine call_ret (down_calls rk2.rd rfl hA ask) ?_
  rintro _ h3 ⟨pb, rfl, hpb, ⟨pl, Bp, hpath⟩, hc3⟩
  obtain ⟨p0, i0, hlast0, _, hp02⟩ := hpath 0 (by omega)
  have hi0 : i0 = A.length - 1 := last_low (fun a ha => (rk.rd.ok a (List.mem_append_left _ ha)).pos) hlast0
  refine Ai (by decide) (Ai (by decide) (Ei (.int .i64 i0) (Ai (cell_blk Bp hp02) ?_)))
  refine Ai (hc2.nil hc3) (Or.inr ⟨_, _, _, hS, hmn, ?_⟩)
  have : i0 = (A.tail.map Nd.r).length := by simp; omega
  rw [← this]; rfl
theorem rep_get {a b : Value} : ∀ (n i : Nat), i < n → ((List.replicate n [a, b]).flatten)[2 * i]? = some a ∧ ((List.replicate n [a, b]).flatten)[2 * i + 1]? = some b
 |0, i, h => by omega
 |n + 1, 0, _ => by simp [List.replicate_succ]
 |n + 1, i + 1, h => by
  have ih := rep_get (a := a) (b := b) n i (by omega)
  have e : 2 * (i + 1) = 2 * i + 1 + 1 := by omega
  rw [List.replicate_succ, List.flatten_cons, e]
  simpa using ih
theorem begun_calls {h : Heap} (ht : TabH h) :
  CallsH Tryz.prog 238 [] h (Ret fun u h' => Chg [] h h' ∧ ∃ fp, RS h' u [] fp ∧ ∀ b ∈ fp, h.size ≤ b) := by
 have h1lt : 3 < h.size := by
  obtain ⟨v, _, _, hv⟩ := ht 0 (by omega)
  exact cell_lt hv
 refine f238_calls (by simp) ?_
 refine Ai (by decide) (Ai (by decide) (Ai (by decide) (Ai (by decide) ?_)))
 intro lb h1 g1
 intro mb h2 g2
 intro mpb h3 g3
 intro rb h4 g4
 have s1 := g1.id; have s1' := g1.size; have s2 := g2.id; have s2' := g2.size; have s3 := g3.id; have s3' := g3.size; have s4 := g4.id; have s4' := g4.size
 have hc24 : Chg [] h2 h4 := g3.chg.nil g4.chg
 have hc : Chg [] h h4 := (g1.chg.nil g2.chg).nil hc24
 have BL : Blk h4 lb ((List.replicate 16 [.pointer none, .int .i64 0]).flatten) := (g1.blk.chg g2.chg (by simp)).chg hc24 (by simp)
 have BM : Blk h4 mb (Nd.row ⟨mb, lb, 16, ⟨⟨#[]⟩, 0⟩⟩) := (show Blk h2 mb (Nd.row ⟨mb, lb, 16, ⟨⟨#[]⟩, 0⟩⟩) from g2.blk).chg hc24 (by simp)
 have BP : MapB h4 mpb [] 0 := (show MapB h3 mpb [] 0 from g3.blk).chg g4.chg (by simp)
 have BR : Blk h4 rb [ptr mb, .map (some mpb)] := g4.blk
 have hfp : blks rb mpb [⟨mb, lb, 16, ⟨⟨#[]⟩, 0⟩⟩] = [rb, mpb, mb, lb] := rfl
 refine Ai hc (Ei [rb, mpb, mb, lb] (Ai ⟨rb, mpb, [⟨mb, lb, 16, ⟨⟨#[]⟩, 0⟩⟩], rfl, ?_, rfl⟩ ?_))
 ·refine ⟨⟨⟨_, [], rfl, rfl, BR⟩, fun a ha => ?_, fun hh hlt => ?_, by simp⟩, ?_, rfl, ⟨[], 0, BP, by simp [mapOf]⟩, List.Pairwise.nil, List.nodup_nil, ht.chg hc (by simp), ?_⟩
  ·simp at ha; subst ha
   exact ⟨BM, ⟨_, BL, by simp⟩, by simp, by simp⟩
  ·have hg := rep_get (a := .pointer none) (b := .int .i64 0) 16 hh hlt
   simp only [ons, hlt, if_true]
   exact ⟨⟨0, cell_blk BL hg.1, cell_blk BL hg.2⟩, trivial⟩
  ·rw [hfp]; simp; omega
  ·rw [hfp]; simp; omega
 ·intro b hb
  simp at hb; omega
def encI (i : Int) : List Value := [.int .i64 i]
theorem encI_len (i : Int) : (encI i).length = 1 := rfl
def OfP (h : Heap) (l : List Rank) (u : Value) (h' : Heap) : Prop :=
 Chg [] h h' ∧ if ofErr l = 0 then ∃ v fp, u = .tuple #[v, .int .i64 0] ∧ RS h' v (ofR l) fp ∧ ∀ b ∈ fp, h.size ≤ b else u = .tuple #[.pointer none, .int .i64 (ofErr l)]
theorem ofP_bad {h h' : Heap} {l : List Rank} (hc : Chg [] h h') {e : Int} (he : ofErr l = e) (hn : e ≠ 0) : OfP h l (.tuple #[.pointer none, .int .i64 e]) h' := by
 refine ⟨hc, ?_⟩
 rw [he, if_neg hn]
theorem ofm_second {h h1 : Heap} {a : Option Addr} {c : Nat} {l : List Rank} {cv : Value} {cs : List Int} (hv : SL encR h1 (.slice a l.length c) l) (hcv : SL encI h1 cv cs) (hcl : cs.length < 4611686018427387904)
  (hc1 : Chg [] h h1) (ht : TabH h1) (hlen : l.length ≤ 65536) (hsz : l.any (fun x => decide (1048576 < x.name.size)) = false) :
  swp Tryz.prog (.seq (.ops f179r10) (.seq (.seq (.ops f179r11) (.block 2 (.loop f179l22))) (.seq (.ops f179r23) .ret))) (retQ [.t 4, .t 5] (Ret (OfP h l))) (mk [(0, .slice a l.length c), (1, cv)]) [] h1 := by
 have hsm : ∀ x ∈ l, ¬ 1048576 < x.name.size := by
  intro x hx
  have := List.any_eq_false.1 hsz x hx
  simpa using this
 obtain ⟨ca, cc, rfl, hcc⟩ := hcv.form
 refine call_ret (begun_calls ht) ?_
 rintro rv h2 ⟨hc2, fp0, rs0, hfp0⟩
 refine loop_intro (fun k : Nat => [(1, .slice ca cs.length cc), (8, rv), (29, .slice a l.length c), (30, .int .i64 l.length), (31, .int .i64 k)])
  (fun k h' => k ≤ l.length ∧ Chg [] h1 h' ∧ ∃ out fp, RS h' rv out fp ∧ (∀ b ∈ fp, h1.size ≤ b) ∧ out.length ≤ k ∧ ofGo out (l.drop k) = ofGo [] l) (fun k => l.length - k) 0
  ⟨rfl, rfl, rfl, rfl, rfl, trivial⟩ ⟨Nat.zero_le _, hc2, [], fp0, rs0, hfp0, Nat.le_refl _, rfl⟩ ?_
 rintro k h3 ⟨hk, hc3, out, fp, rs, hfp, hol, hgo⟩
 refine Ai rfl (Ai (fun hlt => ?_) (fun hlt => ?_))
 ·have hlt : k < l.length := by omega
  obtain ⟨b, o, rfl⟩ := hv.addr (by omega)
  have hcs := (hv.ext hc3).cells encR_len (i := k) (x := l[k]) (by simp [hlt])
  rw [List.drop_eq_getElem_cons hlt, ofGo] at hgo
  refine Ai (by omega) (Ai (by omega) (Ei (encR l[k]) (Ai rfl (Ai hcs ?_))))
  intro b4 h4 g4
  refine Ei _ (Ai g4.blk (Ai (by decide) (Ai rfl (Ai (ones2 rfl rfl) ?_))))
  intro h5 p5
  have g5 := g4.put p5
  have B5 : Blk h5 b4 (encR l[k]) := p5.blk
  have hc5 := g5.chg
  have rs5 := rs.ext hc5
  have rs5' := rs5
  obtain ⟨rb, mpb, N, rfl, rk, rfl⟩ := rs5
  obtain ⟨hd0, mem0, hN0, hht0, hrb⟩ := rk.rd.r
  obtain ⟨es, cl, hmap, hfits, hel, hl⟩ := rk.look l[k].name
  refine Ei _ (Ai (cell_blk hrb rfl) ?_)
  refine Ei _ (Ai (cell_blk B5 rfl) ?_)
  refine Ai rfl (Ei es (Ei cl (Ai hmap (Ai hfits ?_))))
  have hc35 : Chg [] h1 h5 := hc3.nil hc5
  rcases hl with ⟨hno, hm⟩ | ⟨A, m, B, j, rfl, hA, hmn, hm⟩
  ·rw [hm]
   have hfn : findR l[k].name out 0 = -1 := findR_none hno
   rw [hfn, if_neg (by decide)] at hgo
   have hse : setErr out l[k] = false := by
    have := hsm l[k] (List.getElem_mem hlt)
    simp [setErr]; omega
   rw [hse, if_neg (by simp)] at hgo
   have hset : setR out l[k] = insR l[k] out := by unfold setR; rw [dropR_none hno]
   rw [hset] at hgo
   have done : ∀ N' h6, RK h6 rb mpb N' (insR l[k] out) → Chg (blks rb mpb N) h5 h6 → (∀ b ∈ blks rb mpb N', b ∈ blks rb mpb N ∨ h5.size ≤ b) →
     k + 1 ≤ l.length ∧ Chg [] h1 h6 ∧ ∃ out fp, RS h6 (ptr rb) out fp ∧ (∀ b ∈ fp, h1.size ≤ b) ∧ out.length ≤ k + 1 ∧ ofGo out (l.drop (k + 1)) = ofGo [] l := by
    intro N' h6 rk6 hc6 hb6
    refine ⟨by omega, hc35.fresh hc6 hfp, _, _, ⟨rb, mpb, N', rfl, rk6, rfl⟩, fun b hb => ?_, by rw [insR_len]; omega, hgo⟩
    rcases hb6 b hb with h | h
    ·exact hfp b h
    ·have := hc35.size; omega
   refine Ai rfl (Ai (fun hcn => ?_) (fun hcn => ?_))
   ·have hcn : k < cs.length := by omega
    obtain ⟨cb, co, rfl⟩ := hcv.addr (by omega)
    have hcc5 := (hcv.ext hc35).cells encI_len (i := k) (x := cs[k]) (by simp [hcn])
    refine Ai (by omega) (Ai (by omega) (Ei _ (Ai (hcc5 0 _ rfl) ?_)))
    refine Ei (encR l[k]) (Ai rfl (Ai (cells_blk B5) ?_))
    refine call_ret (put_calls rk l[k] cs[k] hno (by omega)) ?_
    rintro _ h6 ⟨N', rk6, hc6, hb6⟩
    refine Ai rfl (fun z hz => ?_)
    have hz := add_in hz (by omega) (by omega)
    subst hz
    refine Ai rfl (Ei (k + 1) (Ai ?_ (Ai (done N' h6 rk6 hc6 hb6) ?_)))
    ·exact ⟨rfl, rfl, rfl, rfl, rfl, trivial⟩
    ·omega
   ·refine Ei (encR l[k]) (Ai rfl (Ai (cells_blk B5) ?_))
    refine call_ret (put_calls rk l[k] 0 hno (by omega)) ?_
    rintro _ h6 ⟨N', rk6, hc6, hb6⟩
    refine Ai rfl (fun z hz => ?_)
    have hz := add_in hz (by omega) (by omega)
    subst hz
    refine Ai rfl (Ei (k + 1) (Ai ?_ (Ai (done N' h6 rk6 hc6 hb6) ?_)))
    ·exact ⟨rfl, rfl, rfl, rfl, rfl, trivial⟩
    ·omega
  ·rw [hm]
   refine ofP_bad (hc1.nil hc35) ?_ (by decide)
   have hS := rk.there hA
   have hf : 0 ≤ findR l[k].name out 0 := by
    have hnm := rk.names
    rw [hS] at hnm ⊢
    rw [← hmn, findR_mid hnm]; omega
   rw [if_pos hf] at hgo
   unfold ofErr
   rw [if_neg (by omega), hsz, if_neg (by simp), ← hgo]; rfl
 ·have hlt : k = l.length := by omega
  subst hlt
  rw [List.drop_length, ofGo] at hgo
  have e0 : ofErr l = 0 := by
   unfold ofErr
   rw [if_neg (by omega), hsz, if_neg (by simp), ← hgo]; rfl
  refine Ai (hc1.nil hc3) ?_
  rw [if_pos e0]
  have : ofR l = out := by
   unfold ofR
   rw [if_pos e0, ← hgo]; rfl
  rw [this]
  exact ⟨rv, fp, rfl, rs, fun b hb => by have := hfp b hb; have := hc1.size; omega⟩
theorem ofm_calls {h : Heap} {v cv : Value} {l : List Rank} {cs : List Int} (hv : SL encR h v l) (hcv : SL encI h cv cs) (hl : l.length < 4611686018427387904) (hcl : cs.length < 4611686018427387904) (ht : TabH h) :
  CallsH Tryz.prog 179 [v, cv] h (Ret (OfP h l)) := by
 obtain ⟨a, c, rfl, hlc⟩ := hv.form
 refine f179_calls (by simp) ?_
 refine Ai rfl (Ai (fun hn => ?_) (fun hn => ?_))
 ·exact ofP_bad (Chg.refl h) (e := 3) (by unfold ofErr; rw [if_pos (by omega)]) (by decide)
 ·refine loop_intro (fun k : Nat => [(0, .slice a l.length c), (1, cv), (17, .slice a l.length c), (18, .int .i64 l.length), (19, .int .i64 k)]) (fun k h' => k ≤ l.length ∧ Chg [] h h' ∧ (l.take k).any (fun x => decide (1048576 < x.name.size)) = false) (fun k => l.length - k) 0 ⟨rfl, rfl, rfl, rfl, rfl, trivial⟩ ⟨Nat.zero_le _, Chg.refl h, rfl⟩ ?_
  rintro k h1 ⟨hk, hc1, hall⟩
  refine Ai rfl (Ai (fun hlt => ?_) (fun hlt => ?_))
  ·have hlt : k < l.length := by omega
   obtain ⟨b, o, rfl⟩ := hv.addr (by omega)
   have hcs := (hv.ext hc1).cells encR_len (i := k) (x := l[k]) (by simp [hlt])
   refine Ai (by omega) (Ai (by omega) (Ei (encR l[k]) (Ai rfl (Ai hcs ?_))))
   intro b4 h4 g4
   refine Ei _ (Ai g4.blk (Ai (by decide) (Ai rfl (Ai (ones2 rfl rfl) ?_))))
   intro h5 p5
   have g5 := g4.put p5
   have B5 : Blk h5 b4 (encR l[k]) := p5.blk
   have hc5 := hc1.nil g5.chg
   refine Ei _ (Ai (cell_blk B5 rfl) ?_)
   refine Ai rfl (Ai (fun hs => ?_) (fun hs => ?_))
   ·refine ofP_bad hc5 (e := 3) ?_ (by decide)
    unfold ofErr
    rw [if_neg (by omega), any_drop hlt (by simp; omega), if_pos rfl]
   ·refine Ai rfl (fun z hz => ?_)
    have hz := add_in hz (by omega) (by omega)
    subst hz
    refine Ai rfl (Ei (k + 1) (Ai ?_ (Ai ?_ ?_)))
    ·exact ⟨rfl, rfl, rfl, rfl, rfl, trivial⟩
    ·refine ⟨by omega, hc5, ?_⟩
     rw [take_snoc l k hlt, List.any_append, hall]
     simp; omega
    ·omega
  ·have hlt : k = l.length := by omega
   subst hlt
   rw [List.take_length] at hall
   exact cut_at [(0, .slice a l.length c), (1, cv)] ⟨rfl, rfl, trivial⟩ (ofm_second (hv.ext hc1) (hcv.ext hc1) hcl hc1 (ht.chg hc1 (by simp)) (by omega) hall)
def pv : Option Nd → Value
 |some b => ptr b.mb
 |none => .pointer none
theorem low_lead {h : Heap} : ∀ {N : List Nd} {k i : Nat} {a : Nd}, (∀ a ∈ N, 1 ≤ a.ht) → LvL h 0 (ons 0 k N) → N[i]? = some a → ∃ w, link h a 0 (pv N[i + 1]?) w
 |[], k, i, a, _, _, h => by simp at h
 |x :: N, k, i, a, hp, hL, h => by
  have hx := hp x (by simp)
  have hx0 : 0 < x.ht := by omega
  simp only [ons, hx0, if_true] at hL
  cases i with
  |zero =>
   simp at h; subst h
   cases N with
   |nil => exact hL.1
   |cons y N =>
    have hy := hp y (by simp)
    have hy0 : 0 < y.ht := by omega
    simp only [ons, hy0, if_true] at hL
    exact ⟨_, hL.1⟩
  |succ i =>
   have := low_lead (k := k + 1) (i := i) (a := a) (fun b hb => hp b (by simp [hb])) hL.2 (by simpa using h)
   simpa using this
def AskW (gi gc : Array Value) (g : Nat) (h : Heap) (S : List Rank) (E : Nat) : Prop :=
 ∀ h' k a, Chg [] h h' → S[k]? = some a → CallsH Tryz.prog g (gi.toList ++ [.agg ⟨encR a⟩, .int .i64 k] ++ gc.toList) h' (Ret fun u h'' => u = .bool (decide (k < E)) ∧ Chg [] h' h'')
theorem from_calls {h : Heap} {rb mpb f g : Nat} {fi cap gi gc : Array Value} {N : List Nd} {S : List Rank} (rk : RK h rb mpb N S) {K E : Nat} (hK : K ≤ S.length) (hP : AskP fi cap f h N (K + 1)) (hW : AskW gi gc g h S E) :
  CallsH Tryz.prog 243 [ptr rb, .func (.func f) fi cap, .func (.func g) gi gc] h (Ret fun u h' => OL encR 2 h' u ((S.drop K).take (E - K)) ∧ Chg [] h h' ∧ ∀ b ∈ vblk u, h.size ≤ b) := by
 obtain ⟨hd0, mem0, hN0, hht0, hrb⟩ := rk.rd.r
 have hNl := rk.len
 have hN65 := rk.rd.len
 obtain ⟨hN, hAl, ⟨hd, A', hA', hAr⟩, hBr⟩ := split_at rk hK
 have hAne : N.take (K + 1) ≠ [] := by rw [hA']; simp
 have hget : ∀ k, N[k + 1]?.map Nd.r = S[k]? := by
  intro k
  rw [← rk.isS, hN0]; simp [recs]
 refine f243_calls (by simp) ?_
 refine call_ret (none_calls hrb) ?_
 rintro _ h1 ⟨rfl, rfl⟩
 refine call_ret (down_calls rk.rd hN hAne (by rw [hAl]; exact hP)) ?_
 rintro _ h2 ⟨pb, rfl, hpb, ⟨pl, Bp, hpath⟩, hc2⟩
 have rk2 := rk.ext hc2
 obtain ⟨p0, i0, hlast0, hp01, hp02⟩ := hpath 0 (by omega)
 have hi0 : i0 = K := by
  have := last_low (fun a ha => (rk.rd.ok a (List.mem_of_mem_take ha)).pos) hlast0
  omega
 subst hi0
 have hp0N : N[i0]? = some p0 := by
  have h1 := hlast0.get.2
  rw [List.getElem?_take] at h1
  split at h1
  ·exact h1
  ·simp at h1
 have ok0 := rk2.rd.ok p0 (List.mem_of_getElem? hp0N)
 obtain ⟨w0, hl0⟩ := low_lead (fun a ha => (rk2.rd.ok a ha).pos) (rk2.rd.lv 0 (by omega)) hp0N
 have hpos := ok0.pos
 refine Ai (by decide) (Ai (by decide) (Ei (.int .i64 i0) (Ai (cell_blk Bp hp02) ?_)))
 refine Ai (by decide) (Ai (by decide) (Ei (ptr p0.mb) (Ai (cell_blk Bp hp01) ?_)))
 refine Ei _ (Ai (cell_blk ok0.m rfl) ?_)
 refine Ai (by decide) (Ai (by omega) (Ei _ (Ai hl0.1 ?_)))
 refine loop_intro (fun x : Nat × Value × Option Nd => [(2, .func (.func g) gi gc), (7, x.2.1), (9, .int .i64 x.1), (10, pv x.2.2)])
  (fun x h' => i0 ≤ x.1 ∧ x.1 ≤ S.length ∧ x.1 ≤ max E i0 ∧ Chg [] h1 h' ∧ OL encR 2 h' x.2.1 ((S.drop i0).take (x.1 - i0)) ∧ (∀ b ∈ vblk x.2.1, h1.size ≤ b) ∧ x.2.2 = N[x.1 + 1]?) (fun x => S.length - x.1) (i0, .slice none 0 0, N[i0 + 1]?)
  ⟨rfl, rfl, rfl, rfl, trivial⟩ ⟨Nat.le_refl _, hK, by simp only; omega, hc2, by simp only [Nat.sub_self, List.take_zero]; exact OL.nil, by simp [vblk, ablk], rfl⟩ ?_
 rintro ⟨k, ov, q⟩ h3 ⟨hk0, hk, hkE, hc3, ho, hb, hq⟩
 simp only at hk0 hk hkE ho hb hq
 have rk3 := rk.ext hc3
 have fin : ∀ h4, Chg [] h3 h4 → (k = S.length ∨ ¬ k < E) → OL encR 2 h4 ov ((S.drop i0).take (E - i0)) ∧ Chg [] h1 h4 ∧ ∀ b ∈ vblk ov, h1.size ≤ b := by
  intro h4 hc4 hor
  refine ⟨?_, hc3.nil hc4, hb⟩
  have e : (S.drop i0).take (E - i0) = (S.drop i0).take (k - i0) := by
   rcases hor with h | h
   ·by_cases hE : E ≤ k
    ·have : E - i0 = k - i0 := by omega
     rw [this]
    ·rw [List.take_of_length_le (by simp; omega), List.take_of_length_le (by simp; omega)]
   ·have : E - i0 = k - i0 := by omega
    rw [this]
  rw [e]; exact ho.ext hc4
 cases q with
 |none =>
  have hkS : k = S.length := by
   have := List.getElem?_eq_none_iff.1 hq.symm
   omega
  exact fin h3 (Chg.refl h3) (Or.inl hkS)
 |some b =>
  have hbN := hq.symm
  have okb := rk3.rd.ok b (List.mem_of_getElem? hbN)
  have hSk : S[k]? = some b.r := by rw [← hget k, hbN]; rfl
  have hkS : k < S.length := (List.getElem?_eq_some_iff.1 hSk).1
  refine Ei (encR b.r) (Ai rfl (Ai (cells_part (l := b.row) okb.m ?_) ?_))
  ·intro j v hj
   rw [Nat.zero_add]
   unfold Nd.row
   rw [List.getElem?_append_left (List.getElem?_eq_some_iff.1 hj).1]; exact hj
  refine call_ret (hW h3 k b.r hc3 hSk) ?_
  rintro _ h4 ⟨rfl, hc4⟩
  by_cases hkE' : k < E
  ·rw [decide_eq_true hkE']
   have okb4 := okb.ext hc4
   refine Ei (encR b.r) (Ai rfl (Ai (cells_part (l := b.row) okb4.m ?_) ?_))
   ·intro j v hj
    rw [Nat.zero_add]
    unfold Nd.row
    rw [List.getElem?_append_left (List.getElem?_eq_some_iff.1 hj).1]; exact hj
   intro b5 h5 g5
   have ho5 := (ho.ext hc4).ext g5.chg
   have holen : ((S.drop i0).take (k - i0)).length = k - i0 := by simp; omega
   obtain ⟨a5, c5, rfl, hoc⟩ := ho5.sl.form
   refine app_own encR_len encR_one rfl ho5 (SL.one encR_len g5.blk) (by simp; omega) ?_
   intro v' h6 ho6 hc6 hbl
   have hc36 : Chg [] h1 h6 := ((hc3.nil hc4).nil g5.chg).fresh hc6 fun k' hk' => hb k' hk'
   refine Ai rfl (fun z hz => ?_)
   have hz := add_in hz (by omega) (by omega)
   subst hz
   have rk6 := rk.ext hc36
   have okb6 := rk6.rd.ok b (List.mem_of_getElem? hbN)
   obtain ⟨wb, hlb⟩ := low_lead (fun a ha => (rk6.rd.ok a ha).pos) (rk6.rd.lv 0 (by omega)) hbN
   have hpos' := okb6.pos
   refine Ei _ (Ai (cell_blk okb6.m rfl) ?_)
   refine Ai (by decide) (Ai (by omega) (Ei _ (Ai hlb.1 ?_)))
   refine Ai rfl (Ei (k + 1, v', N[k + 1 + 1]?) (Ai ?_ (Ai ?_ ?_)))
   ·exact ⟨rfl, rfl, rfl, rfl, trivial⟩
   ·refine ⟨by simp only; omega, by simp only; omega, by simp only; omega, hc36, ?_, fun b' hb' => ?_, rfl⟩
    ·have e : (S.drop i0).take (k + 1 - i0) = (S.drop i0).take (k - i0) ++ [b.r] := by
      have h1 : k + 1 - i0 = (k - i0) + 1 := by omega
      have h2 : (S.drop i0)[k - i0]? = some b.r := by
       rw [List.getElem?_drop]
       have : i0 + (k - i0) = k := by omega
       rw [this]; exact hSk
      rw [h1, List.take_add_one, h2]; rfl
     rw [e]; exact ho6
    ·rcases hbl b' hb' with h | h
     ·exact hb b' h
     ·have := hc3.size; have := hc4.size; have := g5.size; omega
   ·simp only; omega
  ·rw [decide_eq_false hkE']
   exact fin h4 hc4 (Or.inr hkE')
theorem sel_iv (F U : Nat) : ∀ (l : List Rank) (j : Nat), sel (fun _ i => decide (F ≤ i) && decide (i < U)) l j = (l.drop (F - j)).take (U - max j F)
 |[], j => by simp [sel]
 |x :: l, j => by
  have ih := sel_iv F U l (j + 1)
  simp only [sel, ih]
  by_cases h1 : j < F
  ·rw [if_neg (by simp; omega)]
   have e1 : F - j = (F - (j + 1)) + 1 := by omega
   have e2 : max (j + 1) F = max j F := by omega
   rw [e1, List.drop_succ_cons, e2]
  ·have e0 : F - j = 0 := by omega
   have e1 : F - (j + 1) = 0 := by omega
   rw [e0, e1, List.drop_zero, List.drop_zero]
   by_cases h2 : j < U
   ·rw [if_pos (by simp; omega)]
    have e3 : U - max j F = (U - max (j + 1) F) + 1 := by omega
    rw [e3, List.take_succ_cons]
   ·rw [if_neg (by simp; omega)]
    have e3 : U - max j F = 0 := by omega
    have e4 : U - max (j + 1) F = 0 := by omega
    rw [e3, e4]; simp
theorem sel_congr {p q : Rank → Nat → Bool} : ∀ (l : List Rank) (j : Nat), (∀ k (hk : k < l.length), p l[k] (j + k) = q l[k] (j + k)) → sel p l j = sel q l j
 |[], j, _ => rfl
 |x :: l, j, h => by
  have h0 := h 0 (by simp)
  simp only [Nat.add_zero, List.getElem_cons_zero] at h0
  have ih := sel_congr (p := p) (q := q) l (j + 1) fun k hk => by
   have h1 := h (k + 1) (by simpa using hk)
   have e : j + (k + 1) = j + 1 + k := by omega
   rw [e] at h1
   exact h1
  simp only [sel, h0, ih]
theorem sel_part {p : Rank → Nat → Bool} {l : List Rank} {K E : Nat} (h : ∀ k (hk : k < l.length), p l[k] k = true ↔ K ≤ k ∧ k < E) : sel p l 0 = (l.drop K).take (E - K) := by
 rw [sel_congr (q := fun _ i => decide (K ≤ i) && decide (i < E)) l 0 fun k hk => by
  rw [Nat.zero_add, Bool.eq_iff_iff, h k hk]; simp, sel_iv]
 simp
def pre (q : Rank → Bool) : List Rank → Nat
 |[] => 0
 |x :: l => if q x then pre q l + 1 else 0
theorem pre_le (q : Rank → Bool) : ∀ l, pre q l ≤ l.length
 |[] => by simp [pre]
 |y :: l => by
  have := pre_le q l
  simp only [pre]; split <;> simp; omega
theorem pre_iff {q : Rank → Bool} (hq : ∀ x y, ahead x y = true → q y = true → q x = true) : ∀ {l : List Rank}, Sorted l → ∀ (k : Nat) (hk : k < l.length), q l[k] = true ↔ k < pre q l
 |[], _, k, hk => by simp at hk
 |y :: l, hs, 0, hk => by
  simp only [List.getElem_cons_zero, pre]
  split <;> simp_all
 |y :: l, hs, k + 1, hk => by
  have ⟨h1, h2⟩ := List.pairwise_cons.1 hs
  have ih := pre_iff hq h2 k (by simpa using hk)
  simp only [List.getElem_cons_succ, pre]
  split
  ·rw [ih]; omega
  ·rename_i hy
   constructor
   ·intro h
    exact absurd (hq _ _ (h1 _ (List.getElem_mem _)) h) hy
   ·intro h; omega
theorem nd_of {N : List Nd} {S : List Rank} (hS : recs N = S) {k : Nat} {a : Nd} (h : N[k + 1]? = some a) : S[k]? = some a.r := by
 cases N with
 |nil => simp at h
 |cons y N => rw [← hS]; simp at h; simp [recs, h]
theorem atm_calls {h : Heap} {v : Value} {S : List Rank} {fp : List Nat} (rs : RS h v S fp) (f u : Int) :
  CallsH Tryz.prog 182 [v, .int .i64 f, .int .i64 u] h (Ret fun r h' => OL encR 2 h' r (atR f u S) ∧ Chg [] h h' ∧ ∀ b ∈ vblk r, h.size ≤ b) := by
 obtain ⟨rb, mpb, N, rfl, rk, rfl⟩ := rs
 refine f182_calls (by simp) ?_
 intro b1 h1 g1
 intro b2 h2 g2
 have hc := g1.chg.nil g2.chg
 have rk2 := rk.ext hc
 have B1 : Blk h2 b1 [.int .i64 f] := (show Blk h1 b1 [.int .i64 f] from g1.blk).chg g2.chg (by simp)
 have B2 : Blk h2 b2 [.int .i64 u] := g2.blk
 have e : atR f u S = (S.drop (min f.toNat S.length)).take (u.toNat - min f.toNat S.length) := by
  unfold atR
  refine sel_part fun k hk => ?_
  simp; omega
 refine call_ret (from_calls (K := min f.toNat S.length) (E := u.toNat) (f := 244) (g := 245) (fi := #[]) (gi := #[]) (cap := #[ptr b1]) (gc := #[ptr b2]) rk2 (by omega) ?_ ?_) ?_
 ·intro h' k a hc' hk hpos
  obtain ⟨j, rfl⟩ : ∃ j, k = j + 1 := ⟨k - 1, by omega⟩
  have hj := (List.getElem?_eq_some_iff.1 (nd_of rk.isS hk)).1
  refine f244_calls (by simp) ?_
  intro b3 h3 g3
  refine Ei _ (Ai (cell_blk ((B1.chg hc' (by simp)).chg g3.chg (by simp)) rfl) ?_)
  refine Ai rfl (Ai (fun ht => ?_) (fun ht => ?_))
  ·refine Ai ?_ g3.chg
   rw [decide_eq_true (by omega)]; rfl
  ·refine Ai ?_ g3.chg
   rw [decide_eq_false (by omega)]; rfl
 ·intro h' k a hc' hk
  refine f245_calls (by simp) ?_
  intro b3 h3 g3
  refine Ei _ (Ai (cell_blk ((B2.chg hc' (by simp)).chg g3.chg (by simp)) rfl) ?_)
  refine Ai rfl (Ai (fun ht => ?_) (fun ht => ?_))
  ·refine Ai ?_ g3.chg
   rw [decide_eq_true (by omega)]; rfl
  ·refine Ai ?_ g3.chg
   rw [decide_eq_false (by omega)]; rfl
 ·rintro r h3 ⟨ho, hc3, hb⟩
  rw [e]
  exact Ai ho (Ai (hc.nil hc3) fun b hb' => by have := hb b hb'; have := hc.size; omega)
theorem betweenm_calls {h : Heap} {v : Value} {S : List Rank} {fp : List Nat} (rs : RS h v S fp) (f u : Int) :
  CallsH Tryz.prog 184 [v, .int .i64 f, .int .i64 u] h (Ret fun r h' => OL encR 2 h' r (betweenR f u S) ∧ Chg [] h h' ∧ ∀ b ∈ vblk r, h.size ≤ b) := by
 obtain ⟨rb, mpb, N, rfl, rk, rfl⟩ := rs
 refine f184_calls (by simp) ?_
 intro b1 h1 g1
 intro b2 h2 g2
 have hc := g1.chg.nil g2.chg
 have rk2 := rk.ext hc
 have B1 : Blk h2 b1 [.int .i64 f] := (show Blk h1 b1 [.int .i64 f] from g1.blk).chg g2.chg (by simp)
 have B2 : Blk h2 b2 [.int .i64 u] := g2.blk
 have q1 := fun k hk => pre_iff (q := fun y => decide (y.score < f)) (fun x y hxy hy => by rw [ahead_iff] at hxy; simp at hy ⊢; omega) rk.sorted k hk
 have q2 := fun k hk => pre_iff (q := fun y => decide (y.score ≤ u)) (fun x y hxy hy => by rw [ahead_iff] at hxy; simp at hy ⊢; omega) rk.sorted k hk
 have l1 := pre_le (fun y => decide (y.score < f)) S
 have e : betweenR f u S = (S.drop (pre (fun y => decide (y.score < f)) S)).take (pre (fun y => decide (y.score ≤ u)) S - pre (fun y => decide (y.score < f)) S) := by
  unfold betweenR
  refine sel_part fun k hk => ?_
  have h1 := q1 k hk
  have h2 := q2 k hk
  simp only [decide_eq_true_eq] at h1 h2
  simp only [Bool.and_eq_true, decide_eq_true_eq]
  omega
 refine call_ret (from_calls (K := pre (fun y => decide (y.score < f)) S) (E := pre (fun y => decide (y.score ≤ u)) S) (f := 246) (g := 247) (fi := #[]) (gi := #[]) (cap := #[ptr b1]) (gc := #[ptr b2]) rk2 l1 ?_ ?_) ?_
 ·intro h' k a hc' hk hpos
  obtain ⟨j, rfl⟩ : ∃ j, k = j + 1 := ⟨k - 1, by omega⟩
  obtain ⟨hj, hje⟩ := List.getElem?_eq_some_iff.1 (nd_of rk.isS hk)
  have h1 := q1 j hj
  rw [hje] at h1
  simp only [decide_eq_true_eq] at h1
  refine f246_calls (by simp) ?_
  intro b3 h3 g3
  refine Ei _ (Ai (cell_blk g3.blk rfl) ?_)
  refine Ei _ (Ai (cell_blk ((B1.chg hc' (by simp)).chg g3.chg (by simp)) rfl) ?_)
  refine Ai rfl (Ai (fun ht => ?_) (fun ht => ?_))
  ·refine Ai ?_ g3.chg
   rw [decide_eq_true (by omega)]; rfl
  ·refine Ai ?_ g3.chg
   rw [decide_eq_false (by omega)]; rfl
 ·intro h' k a hc' hk
  obtain ⟨hj, hje⟩ := List.getElem?_eq_some_iff.1 hk
  have h2 := q2 k hj
  rw [hje] at h2
  simp only [decide_eq_true_eq] at h2
  refine f247_calls (by simp) ?_
  intro b3 h3 g3
  refine Ei _ (Ai (cell_blk g3.blk rfl) ?_)
  refine Ei _ (Ai (cell_blk ((B2.chg hc' (by simp)).chg g3.chg (by simp)) rfl) ?_)
  refine Ai rfl (Ai (fun ht => ?_) (fun ht => ?_))
  ·refine Ai ?_ g3.chg
   rw [decide_eq_true (by omega)]; rfl
  ·refine Ai ?_ g3.chg
   rw [decide_eq_false (by omega)]; rfl
 ·rintro r h3 ⟨ho, hc3, hb⟩
  rw [e]
  exact Ai ho (Ai (hc.nil hc3) fun b hb' => by have := hb b hb'; have := hc.size; omega)
end Go.Proofs.YtjnijlnmbjjgpaaGreatDoor.K5
namespace Go.Proofs.YtjnijlnmbjjgpaaGreatDoor
open Go Go.Sx C
namespace K5
theorem upto_all {x : Rank} : ∀ {l : List Rank}, (∀ y ∈ l, ahead y x = true) → upto x l = l.length
 |[], _ => rfl
 |y :: l, h => by
  have ih := upto_all (x := x) (l := l) fun z hz => h z (by simp [hz])
  simp only [upto]
  rw [if_pos (h y (by simp)), ih]; rfl
theorem ofGo_id : ∀ {l out : List Rank}, (out ++ l).Pairwise (fun a b => aheadR a b = true) → ((out ++ l).map Rank.name).Nodup → (out ++ l).length ≤ 65536 → (∀ x ∈ l, x.name.size ≤ 1048576) → ofGo out l = some (out ++ l)
 |[], out, _, _, _, _ => by simp [ofGo]
 |x :: l, out, hs, hn, hl, hz => by
  have e : out ++ x :: l = (out ++ [x]) ++ l := by simp
  have hno : ∀ y ∈ out, y.name ≠ x.name := fun y hy he => by
   rw [List.map_append, List.nodup_append] at hn
   exact hn.2.2 y.name (List.mem_map_of_mem hy) x.name (by simp) he
  have hf : findR x.name out 0 = -1 := findR_none hno
  have hlen : out.length < 65536 := by simp at hl; omega
  have hxz := hz x (by simp)
  have hse : setErr out x = false := by
   unfold setErr
   rw [decide_eq_false (by omega), hf, decide_eq_true (by decide), decide_eq_false (by omega)]
   rfl
  have hup : upto x out = out.length := upto_all fun y hy => (List.pairwise_append.1 hs).2.2 y hy x (by simp)
  have hset : setR out x = out ++ [x] := by
   unfold setR insR
   rw [dropR_none hno, hup, List.take_length, List.drop_length]
  unfold ofGo
  rw [if_neg (by rw [hf]; decide), hse, if_neg (by decide), hset, ofGo_id (l := l) (out := out ++ [x]) (by rw [← e]; exact hs) (by rw [← e]; exact hn) (by rw [← e]; exact hl) (fun y hy => hz y (by simp [hy])), ← e]
theorem of_id {l : List Rank} (hs : l.Pairwise (fun a b => aheadR a b = true)) (hn : (l.map Rank.name).Nodup) (hl : l.length ≤ 65536) (hz : ∀ x ∈ l, x.name.size ≤ 1048576) : ofErr l = 0 ∧ ofR l = l := by
 have hg : ofGo [] l = some l := ofGo_id (l := l) (out := []) hs hn hl hz
 have he : ofErr l = 0 := by
  unfold ofErr
  rw [if_neg (by omega), if_neg, hg]
  ·rfl
  ·intro h
   obtain ⟨x, hx, h⟩ := List.any_eq_true.1 h
   have := hz x hx
   have := of_decide_eq_true h
   omega
 refine ⟨he, ?_⟩
 unfold ofR
 rw [if_pos he, hg]; rfl
theorem sel_filter {p : Rank → Bool} : ∀ {l : List Rank} {i : Nat}, sel (fun x _ => p x) l i = l.filter p
 |[], _ => rfl
 |x :: l, i => by
  have ih := sel_filter (p := p) (l := l) (i := i + 1)
  simp only [sel, ih, List.filter_cons]
theorem at_span {l : List Rank} {f u : Nat} (h1 : f ≤ u) (h2 : u ≤ l.length) : atR f u l = (l.drop f).take (u - f) := by
 have e : atR f u l = (l.drop f).take (u - f) := by
  unfold atR
  refine sel_part fun k hk => ?_
  simp
 exact e
end K5
structure RkOK (l : List Rank) : Prop where
 up : l.Pairwise fun a b => aheadR a b = true
 once : (l.map Rank.name).Nodup
 len : l.length ≤ 2000
 sz : ∀ x ∈ l, x.name.size ≤ 2000
 ri : ∀ x ∈ l, In64 x.score
theorem rk_find {l a b : List Rank} {y : Rank} {n : ByteArray} (hn : (l.map Rank.name).Nodup) (e : l = a ++ y :: b) (hy : y.name = n) : scoreF l n = some y.score ∧ (l.findIdx? fun r => decide (r.name = n)) = some a.length := by
 subst e
 have hno : ∀ x ∈ a, x.name ≠ n := fun x hx he => by
  rw [List.map_append, List.nodup_append] at hn
  exact hn.2.2 x.name (List.mem_map_of_mem hx) y.name (by simp) (by rw [he, hy])
 constructor
 ·unfold scoreF
  rw [show (a ++ y :: b).find? (fun r => decide (r.name = n)) = some y by
   rw [List.find?_eq_some_iff_append]
   exact ⟨decide_eq_true hy, a, b, rfl, fun x hx => by rw [decide_eq_false (hno x hx)]; rfl⟩]
  rfl
 ·rw [List.findIdx?_append, List.findIdx?_eq_none_iff.2 fun x hx => decide_eq_false (hno x hx), List.findIdx?_cons, if_pos (decide_eq_true hy)]
  simp
theorem rk_none {l : List Rank} {n : ByteArray} (h : ∀ y ∈ l, y.name ≠ n) : scoreF l n = none ∧ (l.findIdx? fun r => decide (r.name = n)) = none := by
 constructor
 ·unfold scoreF
  rw [List.find?_eq_none.2 fun x hx => by rw [decide_eq_false (h x hx)]; simp]; rfl
 ·exact List.findIdx?_eq_none_iff.2 fun x hx => decide_eq_false (h x hx)
section
variable {h0 h h1 h2 h' : Heap} {ab kb sb mb c b1 b2 bs bt mb2 : Nat} {now op kd : Int} {av lv pv lw rv fv v : Value} {key why n s : ByteArray} {t : Thing} {is : Bool} {A l pre : List ByteArray} {L : List Eff} {m : List KI} {S : Space} {M : List En} {T : List Nat} {res : Res} {th : ByteArray → Bool} {Z : Heap → Prop}
theorem tab9 (ht : K5.TabH h) (hc : Chg [] h h') : K5.TabH h' := ht.chg hc (by simp)
theorem rk9 (hs9 : S9 S) (hi : InS S) : RkOK ((getS S key now).getD zeroT).ranks := by
 have g := good9 (key := key) (now := now) hi
 have t := hs9.get key now
 exact ⟨g.rs, g.once, t.rs, t.rz, t.ri⟩
theorem rof_calls {l : List Rank} (hv : SL encR h rv l) (hr : RkOK l) (ht : K5.TabH h) : CallsH Tryz.prog 179 [rv, .slice none 0 0] h (Ret fun r h' => (∃ v fp, r = .tuple #[v, .int .i64 0] ∧ K5.RS h' v l fp) ∧ Chg [] h h') := by
 have hl := hr.len
 obtain ⟨e1, e2⟩ := K5.of_id hr.up hr.once (by omega) (fun x hx => by have := hr.sz x hx; omega)
 refine (K5.ofm_calls (cs := []) hv SL.nil (by omega) (by simp) ht).mono fun e h' he => ?_
 cases e with
 |panicked ch => exact he.elim
 |outgrown => exact he.elim
 |returned u =>
  obtain ⟨c, he⟩ := he
  rw [if_pos e1] at he
  obtain ⟨v, fp, rfl, rs, _⟩ := he
  rw [e2] at rs
  exact ⟨⟨v, fp, rfl, rs⟩, c⟩
theorem score9_calls (hE : (cE ab kb now av key t is pv lw rv lv L).at h) (hr : RkOK t.ranks) (ht : K5.TabH h) :
  CallsH Tryz.prog 177 [ptr ab, .string n] h (Ret fun r h' => r = .tuple #[.int .i64 ((scoreF t.ranks n).getD 0), .bool (scoreF t.ranks n).isSome] ∧ Chg [] h h') := by
 have sp := (thC hE).2.2
 refine f177_calls (by simp) ?_
 refine Ei _ (Ai (cell_blk hE.1 rfl) ?_)
 refine call_ret (rof_calls sp hr ht) ?_
 rintro _ h2 ⟨⟨v, fp, rfl, rs⟩, c2⟩
 refine call_ret (K5.score_calls rs n) ?_
 rintro u h3 ⟨e3, hu⟩
 have e3 := e3.symm
 subst e3
 rcases hu with ⟨hno, rfl⟩ | ⟨a, y, b, e, hy, rfl⟩
 ·rw [(rk_none hno).1]
  exact ⟨rfl, c2⟩
 ·rw [(rk_find hr.once e hy).1]
  exact ⟨rfl, c2⟩
theorem tc_zadd (hr : RkOK t.ranks) : TC ab kb now av t is pv lw rv (fun h => Blk h b1 [ptr ab] ∧ K5.TabH h) (.func (.func 176) #[] #[ptr b1]) (thereR t.ranks) :=
 ⟨_, _, _, rfl, fun {h s key lv L} hE hZ => by
  refine f176_calls (by simp) ?_
  refine Ei _ (Ai (cell_blk hZ.1 rfl) ?_)
  refine call_ret (score9_calls hE hr hZ.2) ?_
  rintro _ h2 ⟨rfl, c2⟩
  exact ⟨rfl, c2⟩⟩
theorem tc_zrem (hr : RkOK t.ranks) : TC ab kb now av t is pv lw rv (fun h => Blk h b1 [ptr ab] ∧ K5.TabH h) (.func (.func 178) #[] #[ptr b1]) (thereR t.ranks) :=
 ⟨_, _, _, rfl, fun {h s key lv L} hE hZ => by
  refine f178_calls (by simp) ?_
  refine Ei _ (Ai (cell_blk hZ.1 rfl) ?_)
  refine call_ret (score9_calls hE hr hZ.2) ?_
  rintro _ h2 ⟨rfl, c2⟩
  exact ⟨rfl, c2⟩⟩
theorem num9_ret {j : Nat} (p : P9 h0 kb sb mb c m S av A) (hE : (cE ab kb now av key t is pv lw rv lv L).at h) (hc : Chg [] h0 h) (hl : LaidN h0) (hj : A[j]? = some s) (hs : s.size < 281474976710656) {z : Int} (hz : numOf s = some z) :
  CallsH Tryz.prog 163 [ptr ab, .int .i64 j] h (Ret fun r h' => r = .int .i64 z ∧ Chg [] h h') := by
 obtain ⟨b, o, cc, rfl⟩ := p.argF (by have := (List.getElem?_eq_some_iff.1 hj).1; omega)
 refine f163_calls (by simp) ?_
 refine Ei _ (Ai (cell_blk hE.1 rfl) ?_)
 refine p.ix hc j rfl hj ?_
 obtain ⟨⟨l⟩⟩ := s
 refine call_ret (bnum_calls (hl.ext hc) hs) ?_
 rintro _ h1 ⟨rfl, c1⟩
 rw [show Num.num l = some z from hz]
 exact must9_yes fun _ => ⟨rfl, c1⟩
theorem scored_some : ∀ {l : List (ByteArray × ByteArray)}, (∀ p ∈ l, (numOf p.1).isSome = true) → ∃ r, scored l = some r
 |[], _ => ⟨[], rfl⟩
 |(s, n) :: l, h => by
  obtain ⟨z, hz⟩ := Option.isSome_iff_exists.1 (h (s, n) (by simp))
  obtain ⟨r, hr⟩ := scored_some (l := l) fun p hp => h p (by simp [hp])
  refine ⟨(z, n) :: r, ?_⟩
  simp only [scored]
  have hz : numOf s = some z := hz
  rw [hz, hr]
theorem scored_len : ∀ {l : List (ByteArray × ByteArray)} {r : List (Int × ByteArray)}, scored l = some r → r.length = l.length
 |[], r, h => by cases h; rfl
 |(s, n) :: l, r, h => by
  simp only [scored] at h
  split at h
  ·rename_i z r' hz hr
   cases h
   show r'.length + 1 = l.length + 1
   rw [scored_len hr]
  ·cases h
theorem scored_none : ∀ {l : List (ByteArray × ByteArray)} {p : ByteArray × ByteArray}, p ∈ l → numOf p.1 = none → scored l = none
 |(s, n) :: l, p, hp, h => by
  simp only [scored]
  rcases List.mem_cons.1 hp with rfl | hp
  ·have h : numOf s = none := h
   rw [h]
  ·rw [scored_none hp h]
   cases numOf s <;> rfl
theorem scored_get : ∀ {l : List (ByteArray × ByteArray)} {r : List (Int × ByteArray)} {q : Nat} {s n : ByteArray}, scored l = some r → l[q]? = some (s, n) → ∃ z, numOf s = some z ∧ r[q]? = some (z, n)
 |(s, n) :: l, r, q, s', n', h, hq => by
  simp only [scored] at h
  split at h
  ·rename_i z r' hz hr
   cases h
   cases q with
   |zero =>
    simp at hq
    obtain ⟨rfl, rfl⟩ := hq
    exact ⟨z, hz, rfl⟩
   |succ q =>
    obtain ⟨z', h1, h2⟩ := scored_get (q := q) hr (by simpa using hq)
    exact ⟨z', h1, by simpa using h2⟩
  ·cases h
theorem numbers9_calls {k0 : ByteArray} (p : P9 h0 kb sb mb c m S av (k0 :: l)) (hl : LaidN h0) (hev : l.length % 2 = 0) (hlen : l.length < 65536) (hA : ∀ a ∈ k0 :: l, a.size < 281474976710656) (x : As h0 h (cE ab kb now av key t is pv lw rv lv L)) :
  CallsH Tryz.prog 175 [ptr ab, .int .i64 1] h (Sub9 h0 h (cE ab kb now av key t is pv lw rv lv L) (fun _ e' => (∃ r, scored (twos l) = some r) ∧ e' = cE ab kb now av key t is pv lw rv lv L) (fun why => scored (twos l) = none ∧ why = wNum)) := by
 obtain ⟨ba, oa, ac, rfl⟩ := p.argF (by simp)
 have hlc : (k0 :: l).length = l.length + 1 := rfl
 have hhalf := twos_half (Nat.le_refl l.length)
 refine f175_calls (by simp) ?_
 have w := x.st
 refine loop_intro (fun q : Nat => [(0, ptr ab), (4, .int .i64 (2 * q + 1 : Nat))])
  (fun q h' => (2 * q ≤ l.length ∧ ∀ p ∈ (twos l).take q, (numOf p.1).isSome = true) ∧ St (cE ab kb now (.slice (some ⟨ba, oa, none⟩) (k0 :: l).length ac) key t is pv lw rv lv L).fp h h' [cE ab kb now (.slice (some ⟨ba, oa, none⟩) (k0 :: l).length ac) key t is pv lw rv lv L])
  (fun q => l.length - 2 * q) 0 ⟨rfl, rfl, trivial⟩ ⟨⟨Nat.zero_le _, by simp⟩, w⟩ ?_
 rintro q h1 ⟨⟨hq, hsm⟩, w⟩
 refine w.ldc 0 rfl rfl ?_
 refine Ai rfl (Ai (fun hlt => ?_) (fun hge => ?_))
 ·have hlt1 : 2 * q + 1 < l.length := by omega
  have htg := twos_get hlt1
  have hq2 : q < (twos l).length := by omega
  obtain ⟨nm, hnm⟩ : ∃ nm, nm = l[2 * q] := ⟨_, rfl⟩
  obtain ⟨tx, htx⟩ : ∃ tx, tx = l[2 * q + 1] := ⟨_, rfl⟩
  rw [← hnm, ← htx] at htg
  have hn1 : nm ∈ l := by rw [hnm]; exact List.getElem_mem _
  have hn : (k0 :: l)[2 * q + 1]? = some nm := by rw [hnm]; simp
  have htk : (twos l).take (q + 1) = (twos l).take q ++ [(nm, tx)] := by
   rw [List.take_succ_eq_append_getElem hq2]
   have := (List.getElem?_eq_some_iff.1 htg).2
   rw [this]
  refine sub9_go (i := 0) x w rfl (fun x => num9_calls (j := 2 * q + 1) p x hl hn (hA nm (by simp [hn1]))) ?_ ?_
  rotate_left
  ·rintro why h3 ⟨hB, rfl⟩ c3
   exact ⟨_, rfl, ⟨scored_none (List.mem_of_getElem? htg) hB, rfl⟩, c3⟩
  rintro _ h3 _ ⟨z9, hz9, rfl, rfl⟩ w
  refine Ai rfl (fun z hz => ?_)
  have hz := add_in hz (by omega) (by omega)
  subst hz
  refine Ai rfl (Ei (q + 1) (Ai ⟨rfl, rfl, trivial⟩ (Ai ⟨⟨by omega, fun pr hpr => ?_⟩, w⟩ (by omega))))
  rw [htk, List.mem_append] at hpr
  rcases hpr with hpr | hpr
  ·exact hsm pr hpr
  ·rw [List.mem_singleton.1 hpr]
   show (numOf nm).isSome = true
   rw [hz9]; rfl
 ·have hqt : q = (twos l).length := by omega
  rw [hqt, List.take_length] at hsm
  exact ⟨_, ⟨scored_some hsm, rfl⟩, x.out w 0 rfl⟩
set_option maxHeartbeats 2000000 in
theorem zadd9 (p : P9 h0 kb sb mb c m S av A) (hs9 : S9 S) (hi : InS S) (hl : LaidN h0) (ht9 : K5.TabH h0) (hA : ∀ a ∈ A, a.size < 281474976710656) (x : As h0 h (c0 ab kb now av)) : CallsH Tryz.prog 101 [ptr ab] h (Cmd9 h0 h ab kb now av (cZadd S now A)) := by
 refine f101_calls (by simp) ?_
 intro b1 h1 g1
 have w := x.st.new g1
 intro b2 h2 g2
 have w := w.new g2
 refine w.ld1 1 rfl rfl ?_
 refine sub9_go (i := 2) x w rfl (fun x => many9_calls p (by decide) x) ?_ ?_
 rotate_left
 ·rintro why h3 ⟨hB, rfl⟩ c3
  refine bad9 ?_ c3
  cases A with
  |nil => rfl
  |cons k0 l => exact if_neg fun hh => hB ⟨by simp; omega, by simp; omega⟩
 rintro _ h3 _ ⟨hb, k0, hk0, rfl⟩ w
 obtain ⟨k9, l, rfl⟩ := cons_of (by decide) hb.1
 cases hk0
 obtain ⟨ba, oa, ac, rfl⟩ := p.argF (by simp)
 refine w.ld1 1 rfl rfl ?_
 refine w.ldc 2 rfl rfl ?_
 refine Ai rfl (Ai (by decide) (fun z hz => ?_))
 have hz : z = (((k0 :: l).length % 2 : Nat) : Int) := by rw [hz]; exact (Int.ofNat_tmod (k0 :: l).length 2).symm
 subst hz
 have hlc : (k0 :: l).length = l.length + 1 := rfl
 refine Ai rfl (Ai (fun hodd => ?_) (fun hev => must9_no (bad9 (if_neg fun hh => hev (by omega)) w.chg)))
 refine must9_yes fun _ => ?_
 have hc9 : 2 ≤ l.length ∧ l.length < 65536 ∧ l.length % 2 = 0 := ⟨by omega, by omega, by omega⟩
 refine w.ld1 1 rfl rfl ?_
 refine sub9_go (i := 2) x w rfl (fun x => numbers9_calls p hl hc9.2.2 hc9.2.1 hA x) ?_ ?_
 rotate_left
 ·rintro why h4 ⟨hB, rfl⟩ c4
  refine bad9 ((if_pos hc9).trans ?_) c4
  rw [hB]
 rintro _ h4 _ ⟨⟨rr, hrr⟩, rfl⟩ w
 have hnn : cZadd S now (k0 :: l) = kindly S now 5 k0 (fun t => makes S now k0 (t.ranks.length + (newL (thereR t.ranks) [] (rr.map Prod.snd)).length) ((rr.map Prod.snd).all small) (numR (newL (thereR t.ranks) [] (rr.map Prod.snd)).length) (rr.map fun p => rankE k0 p.2 p.1)) :=
  (show cZadd S now (k0 :: l) = if 2 ≤ l.length ∧ l.length < 65536 ∧ l.length % 2 = 0 then _ else _ from rfl).trans ((if_pos hc9).trans (by rw [hrr]))
 refine w.ld1 1 rfl rfl ?_
 refine sub9_go (i := 2) x w rfl (fun x => of9_calls p x) ?_ ?_
 rotate_left
 ·rintro why h4 ⟨hB, rfl⟩ c4
  exact bad9 (hnn.trans (kindly_no hB)) c4
 rintro _ h4 _ ⟨hk, p2, w2, r2, rfl⟩ w
 have hrk := rk9 (key := k0) (now := now) hs9 hi
 have htl := hrk.len
 have hk9 := hA k0 (by simp)
 have he := hnn.trans (kindly_ok hk)
 clear hnn
 generalize (getS S k0 now).getD zeroT = t at *
 obtain ⟨pa, pc, rfl, _⟩ := (w.thc 2 rfl).2.2.form
 obtain ⟨names, hnames⟩ : ∃ names, names = rr.map Prod.snd := ⟨_, rfl⟩
 obtain ⟨D, hDe⟩ : ∃ D, D = rr.map fun p => rankE k0 p.2 p.1 := ⟨_, rfl⟩
 have hrl : rr.length = (twos l).length := scored_len hrr
 have he : cZadd S now (k0 :: l) = makes S now k0 (t.ranks.length + (newL (thereR t.ranks) [] names).length) (names.all small) (numR (newL (thereR t.ranks) [] names).length) D := by rw [he, hnames, hDe]
 have hhalf := twos_half (Nat.le_refl l.length)
 have hnl : names.length = (twos l).length := by rw [hnames, List.length_map]; exact hrl
 have hDl : D.length = (twos l).length := by rw [hDe, List.length_map]; exact hrl
 have hD9 : D ≠ [] := fun e => by rw [e] at hDl; simp at hDl; omega
 have hnle := fun q => newL_le (th := thereR t.ranks) (l := names) q
 refine call_ret fresh9_calls ?_
 rintro _ h5 ⟨⟨bs, mb2, bt, rfl, hf, hfb⟩, c5⟩
 have w := w.add (e := frE bs mb2 bt (.func (.func 176) #[] #[ptr b1]) []) c5 hf (fun b hb => hfb b (by simpa [frE, En.fp] using hb))
 refine loop_intro (fun q : Nat × Nat × Value => [(1, ptr b1), (2, ptr b2), (3, .int .i64 q.2.1), (4, .func (.func 228) #[] #[ptr bs, ptr bt]), (5, .int .i64 (2 * q.1 + 1 : Nat))])
  (fun q h' => (2 * q.1 ≤ l.length ∧ q.2.1 = (newL (thereR t.ranks) [] (names.take q.1)).length ∧ (0 < q.1 → ((t.ranks.length : Int) + q.2.1 ≤ 65536 ∧ k0.size ≤ 1048576)) ∧ (names.take q.1).all small = true) ∧
   St (c0 ab kb now (.slice (some ⟨ba, oa, none⟩) (k0 :: l).length ac)).fp h h' [frE bs mb2 bt (.func (.func 176) #[] #[ptr b1]) (names.take q.1), .b b2 [.int .i64 0, .int .i64 0, .string ⟨#[]⟩, .slice none 0 0], .b b1 [ptr ab],
    cE ab kb now (.slice (some ⟨ba, oa, none⟩) (k0 :: l).length ac) k0 t (getS S k0 now).isSome p2 w2 (.slice pa t.ranks.length pc) q.2.2 (accE S k0 now D q.1)])
  (fun q => l.length - 2 * q.1) (0, 0, nilV) ⟨rfl, rfl, rfl, rfl, rfl, trivial⟩ ⟨⟨Nat.zero_le _, rfl, fun h9 => absurd h9 (by simp), rfl⟩, w⟩ ?_
 rintro ⟨q, n, lv⟩ h6 ⟨⟨hq, hn0, hfits, hsm⟩, w⟩
 replace hq : 2 * q ≤ l.length := hq
 replace hn0 : n = (newL (thereR t.ranks) [] (names.take q)).length := hn0
 replace hfits : 0 < q → ((t.ranks.length : Int) + n ≤ 65536 ∧ k0.size ≤ 1048576) := hfits
 replace hsm : (names.take q).all small = true := hsm
 have hnq : n ≤ q := by
  have h1 := newL_len (th := thereR t.ranks) (l := names.take q) (pre := [])
  rw [List.length_take] at h1
  omega
 refine w.ld1 2 rfl rfl ?_
 refine w.ldc 3 rfl rfl ?_
 refine Ai rfl (Ai (fun hlt => ?_) (fun hge => ?_))
 ·have hlt1 : 2 * q + 1 < l.length := by omega
  have htg := twos_get hlt1
  have hq2 : q < (twos l).length := by omega
  obtain ⟨nm, hnm⟩ : ∃ nm, nm = l[2 * q] := ⟨_, rfl⟩
  obtain ⟨tx, htx⟩ : ∃ tx, tx = l[2 * q + 1] := ⟨_, rfl⟩
  rw [← hnm, ← htx] at htg
  have hn1 : nm ∈ l := by rw [hnm]; exact List.getElem_mem _
  have ht1 : tx ∈ l := by rw [htx]; exact List.getElem_mem _
  have hn : (k0 :: l)[2 * q + 1]? = some nm := by rw [hnm]; simp
  have ht : (k0 :: l)[2 * q + 2]? = some tx := by rw [htx]; simp
  clear hnm htx
  have hz1 := hA nm (by simp [hn1])
  have hz2 := hA tx (by simp [ht1])
  obtain ⟨sc, hsc, hrg⟩ := scored_get hrr htg
  have hD : D[q]? = some { (⟨14, noText, tx, noText, sc⟩ : Eff) with key := k0 } := by rw [hDe, List.getElem?_map, hrg]; rfl
  have hal := acc_len (S := S) (key := k0) (now := now) D q (by omega)
  have hqn : q < names.length := by omega
  have hnq8 : names[q]? = some tx := by rw [hnames, List.getElem?_map, hrg]; rfl
  have hnq9 : names[q] = tx := (List.getElem?_eq_some_iff.1 hnq8).2
  have hnin : tx ∈ names := List.mem_of_getElem? hnq8
  have htk2 : names.take (q + 1) = names.take q ++ [tx] := by rw [List.take_succ_eq_append_getElem hqn, hnq9]
  refine w.ld1 2 rfl rfl ?_
  refine w.ldc 3 rfl rfl ?_
  refine Ai rfl (fun z hz => ?_)
  have hz := add_in hz (by simp only; omega) (by simp only; omega)
  subst hz
  refine p.ix (x.base w) (2 * q + 2) rfl ht ?_
  refine w.fresh 0 3 rfl rfl (by decide) (tc_zadd hrk) (fun h9 c9 => ⟨fr_box w 0 2 rfl rfl (by decide) h9 c9, tab9 ht9 (x.base (w.set (e' := En.nil) 0 rfl c9 (fun b hb => .inl (by simp at hb; simp [frE, En.fp, hb])) trivial (fun b hb => (nomatch (show b ∈ ([] : List Nat) from hb)))))⟩) (by rw [List.length_take]; omega) fun h7 w => ?_
  obtain ⟨bb, hbb⟩ : ∃ bb, bb = (!thereR t.ranks tx && decide (tx ∉ names.take q)) := ⟨_, rfl⟩
  have hcnt := newL_cnt (th := thereR t.ranks) hqn (b := bb) (by rw [hnq9]; exact hbb)
  have hcl := hnle (q + 1)
  rw [← hbb]
  cases bb with
  |true =>
   have hcnt : (newL (thereR t.ranks) [] (names.take (q + 1))).length = n + 1 := by rw [hcnt, hn0]; rfl
   refine Ai rfl (fun z hz => ?_)
   have hz := add_in hz (by simp only; omega) (by simp only; omega)
   subst hz
   refine w.ld1 2 rfl rfl ?_
   refine w.ld1 2 rfl rfl ?_
   refine w.ldc 3 rfl rfl ?_
   refine Ai rfl (fun z hz => ?_)
   have hz := add_in hz (by simp only; omega) (by simp only; omega)
   subst hz
   refine p.ix (x.base w) (2 * q + 2) rfl ht ?_
   refine w.ld1 2 rfl rfl ?_
   refine w.ld1 2 rfl rfl ?_
   refine w.ldc 3 rfl rfl ?_
   refine Ai rfl (fun z hz => ?_)
   have hz : z = (t.ranks.length : Int) + (n + 1 : Nat) := hz.trans (wrap_in (by simp only; omega) (by simp only; omega))
   subst hz
   refine w.callqv (num9_ret p (w.get 3 rfl) (x.base w) hl hn hz1 hsc) fun h7 w => ?_
   refine sub9_go (i := 3) x w rfl (fun x => put9_calls p ⟨14, noText, tx, noText, sc⟩ x (by simp only; omega) (by omega) (by show tx.size < _; omega) (by show noText.size < _; decide)) ?_ ?_
   rotate_left
   ·rintro why h5 ⟨hB, rfl⟩ c5
    refine bad9 (he.trans (mkNo9 ?_)) c5
    rintro ⟨m1, m2, m3⟩
    exact hB ⟨by omega, m2, small_of9 m3 hnin, by show noText.size ≤ _; decide⟩
   rintro _ h5 _ ⟨hfit, lv5, rfl⟩ w
   rw [acc_put hD] at w
   refine Ai rfl (fun z hz => ?_)
   have hz := add_in hz (by simp only; omega) (by simp only; omega)
   subst hz
   refine Ai rfl (Ei (q + 1, n + 1, lv5) (Ai ⟨rfl, rfl, rfl, rfl, rfl, trivial⟩ (Ai ⟨⟨by omega, by rw [hcnt], fun _ => ⟨?_, hfit.2.1⟩, ?_⟩, ?_⟩ (by simp only; omega))))
   ·have := hfit.1
    push_cast at this ⊢
    omega
   ·rw [htk2, List.all_append, hsm]
    simp [small]
    exact hfit.2.2.1
   ·rw [htk2]; exact w
  |false =>
   have hcnt : (newL (thereR t.ranks) [] (names.take (q + 1))).length = n := by rw [hcnt, hn0]; rfl
   refine w.ld1 2 rfl rfl ?_
   refine w.ld1 2 rfl rfl ?_
   refine w.ldc 3 rfl rfl ?_
   refine Ai rfl (fun z hz => ?_)
   have hz := add_in hz (by simp only; omega) (by simp only; omega)
   subst hz
   refine p.ix (x.base w) (2 * q + 2) rfl ht ?_
   refine w.ld1 2 rfl rfl ?_
   refine w.ld1 2 rfl rfl ?_
   refine w.ldc 3 rfl rfl ?_
   refine Ai rfl (fun z hz => ?_)
   have hz : z = (t.ranks.length : Int) + (n : Nat) := hz.trans (wrap_in (by simp only; omega) (by simp only; omega))
   subst hz
   refine w.callqv (num9_ret p (w.get 3 rfl) (x.base w) hl hn hz1 hsc) fun h7 w => ?_
   refine sub9_go (i := 3) x w rfl (fun x => put9_calls p ⟨14, noText, tx, noText, sc⟩ x (by simp only; omega) (by omega) (by show tx.size < _; omega) (by show noText.size < _; decide)) ?_ ?_
   rotate_left
   ·rintro why h5 ⟨hB, rfl⟩ c5
    refine bad9 (he.trans (mkNo9 ?_)) c5
    rintro ⟨m1, m2, m3⟩
    exact hB ⟨by omega, m2, small_of9 m3 hnin, by show noText.size ≤ _; decide⟩
   rintro _ h5 _ ⟨hfit, lv5, rfl⟩ w
   rw [acc_put hD] at w
   refine Ai rfl (fun z hz => ?_)
   have hz := add_in hz (by simp only; omega) (by simp only; omega)
   subst hz
   refine Ai rfl (Ei (q + 1, n, lv5) (Ai ⟨rfl, rfl, rfl, rfl, rfl, trivial⟩ (Ai ⟨⟨by omega, by rw [hcnt], fun _ => ⟨?_, hfit.2.1⟩, ?_⟩, ?_⟩ (by simp only; omega))))
   ·have := hfit.1
    push_cast at this ⊢
    omega
   ·rw [htk2, List.all_append, hsm]
    simp [small]
    exact hfit.2.2.1
   ·rw [htk2]; exact w
 ·have hql : 2 * q = l.length := by omega
  have hqt : q = (twos l).length := by omega
  have hnf : n = (newL (thereR t.ranks) [] names).length := by rw [hn0, List.take_of_length_le (by omega)]
  refine w.callv number9_calls fun h7 w => ?_
  refine w.st1 1 rfl rfl rfl rfl fun h8 w => ?_
  refine fin9 x w 1 3 rfl rfl ?_
  rw [he, mkOk9 ⟨by have := (hfits (by omega)).1; omega, (hfits (by omega)).2, by rw [← List.take_of_length_le (l := names) (i := q) (by omega)]; exact hsm⟩, hqt, ← hDl, acc_all hD9, hnf]
  rfl
theorem zrem9 (p : P9 h0 kb sb mb c m S av A) (hs9 : S9 S) (hi : InS S) (ht : K5.TabH h0) (x : As h0 h (c0 ab kb now av)) : CallsH Tryz.prog 102 [ptr ab] h (Cmd9 h0 h ab kb now av (cZrem S now A)) := by
 refine f102_calls (by simp) ?_
 intro b1 h1 g1
 have w := x.st.new g1
 intro b2 h2 g2
 have w := w.new g2
 refine w.ld1 1 rfl rfl ?_
 refine sub9_go (i := 2) x w rfl (fun x => begin9_calls p (by decide) x) ?_ ?_
 rotate_left
 ·rintro why h2 hB c2
  exact bad9 (no_away (f := fun key l t => .ok (numR (hereL (thereR t.ranks) l).length, (hereL (thereR t.ranks) l).map (unrankE key))) hB (fun _ _ => rfl) rfl) c2
 rintro _ h3 _ ⟨hb, k0, hk0, hk, p2, w2, r2, rfl⟩ w
 obtain ⟨k9, l, rfl⟩ := cons_of (by decide) hb.1
 cases hk0
 have hlc : (k0 :: l).length = l.length + 1 := rfl
 have hc9 : 1 ≤ l.length ∧ l.length < 65536 := ⟨by omega, by omega⟩
 have hrk := rk9 (key := k0) (now := now) hs9 hi
 have he : cZrem S now (k0 :: l) = _ := (show cZrem S now (k0 :: l) = if 1 ≤ l.length ∧ l.length < 65536 then kindly S now 5 k0 (fun t => .ok (numR (hereL (thereR t.ranks) l).length, (hereL (thereR t.ranks) l).map (unrankE k0))) else .error wArgs from rfl).trans ((if_pos hc9).trans (kindly_ok hk))
 generalize (getS S k0 now).getD zeroT = t at *
 refine w.ld1 1 rfl rfl ?_
 have C3 := x.base w
 have x3 := (x.out w 2 rfl).1
 refine call_ret (away9_calls p hc9 x3 (tc_zrem (b1 := b1) hrk) (fun h9 c9 => ⟨Blk.chg (w.get 1 rfl) c9 (fun hm => w.apart 1 2 _ _ rfl rfl (by decide) b1 (by simp [En.fp]) hm), tab9 ht (C3.fresh c9 x3.fresh)⟩)) ?_
 rintro _ h5 ⟨rfl, lv5, _, o5⟩
 have w := w.own 2 rfl o5
 refine w.st1 0 rfl rfl rfl rfl fun h6 w => ?_
 exact fin9 x w 0 2 rfl rfl he
theorem zcard9 (p : P9 h0 kb sb mb c m S av A) (x : As h0 h (c0 ab kb now av)) : CallsH Tryz.prog 105 [ptr ab] h (Cmd9 h0 h ab kb now av (cZcard S now A)) := by
 refine f105_calls (by simp) ?_
 intro b2 h1 g1
 have w := x.st.new g1
 refine sub9_go (i := 1) x w rfl (fun x => begin9_calls p (by decide) x) ?_ ?_
 rotate_left
 ·rintro why h2 hB c2
  exact bad9 (NoB.a1 (f := fun _ t => .ok (numR t.ranks.length, [])) hB) c2
 rintro _ h2 _ ⟨hb, k0, hk0, hk, p2, w2, r2, rfl⟩ w
 obtain ⟨k9, rfl⟩ := one_arg hb
 cases hk0
 obtain ⟨la, lc, rfl, _⟩ := (w.thc 1 rfl).2.2.form
 refine w.ldc 1 rfl rfl ?_
 refine w.callv number9_calls fun h3 w => ?_
 refine w.st1 0 rfl rfl rfl rfl fun h4 w => ?_
 have he : cZcard S now [k0] = _ := (show cZcard S now [k0] = kindly S now 5 k0 (fun t => .ok (numR t.ranks.length, [])) from rfl).trans (kindly_ok hk)
 exact fin9 x w 0 1 rfl rfl he
theorem zscore9 (p : P9 h0 kb sb mb c m S av A) (hs9 : S9 S) (hi : InS S) (hl : LaidN h0) (ht : K5.TabH h0) (x : As h0 h (c0 ab kb now av)) : CallsH Tryz.prog 103 [ptr ab] h (Cmd9 h0 h ab kb now av (cZscore S now A)) := by
 refine f103_calls (by simp) ?_
 intro b2 h1 g1
 have w := x.st.new g1
 refine sub9_go (i := 1) x w rfl (fun x => begin9_calls p (by decide) x) ?_ ?_
 rotate_left
 ·rintro why h2 hB c2
  exact bad9 (NoB.a2 (f := fun _ n t => match scoreF t.ranks n with
   |some z => .ok (textR ⟨⟨Lib.itoa z⟩⟩, [])
   |none => .ok (nilR, [])) hB) c2
 rintro _ h2 _ ⟨hb, k0, hk0, hk, p2, w2, r2, rfl⟩ w
 obtain ⟨k9, n, rfl⟩ := two_arg hb
 cases hk0
 have he : cZscore S now [k0, n] = _ := (show cZscore S now [k0, n] = kindly S now 5 k0 (fun t => match scoreF t.ranks n with
   |some z => .ok (textR ⟨⟨Lib.itoa z⟩⟩, [])
   |none => .ok (nilR, [])) from rfl).trans (kindly_ok hk)
 have hrk := rk9 (key := k0) (now := now) hs9 hi
 generalize (getS S k0 now).getD zeroT = t at *
 obtain ⟨b, o, cc, rfl⟩ := p.argF (by simp)
 refine w.ldc 1 rfl rfl ?_
 refine p.ix (x.base w) 1 rfl rfl ?_
 refine w.callv (score9_calls (w.get 1 rfl) hrk (tab9 ht (x.base w))) fun h3 w => ?_
 have hin : ∀ z, scoreF t.ranks n = some z → In64 z := fun z hz => by
  unfold scoreF at hz
  obtain ⟨r, hr, rfl⟩ := Option.map_eq_some_iff.1 hz
  exact hrk.ri r (List.mem_of_find?_eq_some hr)
 generalize scoreF t.ranks n = fo at he hin ⊢
 cases fo with
 |none =>
  refine w.st1 0 rfl rfl rfl rfl fun h4 w => ?_
  exact fin9 x w 0 1 rfl rfl he
 |some z =>
  have hz := hin z rfl
  refine w.callv (format_calls (n := z) (hl.ext (x.base w)) hz.1 hz.2) fun h4 w => ?_
  refine w.callv text9_calls fun h4 w => ?_
  refine w.st1 0 rfl rfl rfl rfl fun h5 w => ?_
  exact fin9 x w 0 1 rfl rfl he
theorem zrank9 (p : P9 h0 kb sb mb c m S av A) (hs9 : S9 S) (hi : InS S) (ht : K5.TabH h0) (x : As h0 h (c0 ab kb now av)) : CallsH Tryz.prog 106 [ptr ab] h (Cmd9 h0 h ab kb now av (cZrank S now A)) := by
 refine f106_calls (by simp) ?_
 intro b2 h1 g1
 have w := x.st.new g1
 refine sub9_go (i := 1) x w rfl (fun x => begin9_calls p (by decide) x) ?_ ?_
 rotate_left
 ·rintro why h2 hB c2
  exact bad9 (NoB.a2 (f := fun _ n t => match t.ranks.findIdx? fun r => decide (r.name = n) with
   |some i => .ok (numR i, [])
   |none => .ok (nilR, [])) hB) c2
 rintro _ h2 _ ⟨hb, k0, hk0, hk, p2, w2, r2, rfl⟩ w
 obtain ⟨k9, n, rfl⟩ := two_arg hb
 cases hk0
 have he : cZrank S now [k0, n] = _ := (show cZrank S now [k0, n] = kindly S now 5 k0 (fun t => match t.ranks.findIdx? fun r => decide (r.name = n) with
   |some i => .ok (numR i, [])
   |none => .ok (nilR, [])) from rfl).trans (kindly_ok hk)
 have hrk := rk9 (key := k0) (now := now) hs9 hi
 generalize (getS S k0 now).getD zeroT = t at *
 obtain ⟨b, o, cc, rfl⟩ := p.argF (by simp)
 refine w.ldc 1 rfl rfl ?_
 refine call_ret (rof_calls (w.thc 1 rfl).2.2 hrk (tab9 ht (x.base w))) ?_
 rintro _ h3 ⟨⟨v, fp, rfl, rs⟩, c3⟩
 have w := w.ext c3
 refine w.ldc 1 rfl rfl ?_
 refine p.ix (x.base w) 1 rfl rfl ?_
 refine call_ret (K5.rank_calls rs n) ?_
 rintro u h4 ⟨c4, hu⟩
 have w := w.ext c4
 rcases hu with ⟨hno, rfl⟩ | ⟨a, y, b, e, hy, rfl⟩
 ·rw [(rk_none hno).2] at he
  refine w.st1 0 rfl rfl rfl rfl fun h4 w => ?_
  exact fin9 x w 0 1 rfl rfl he
 ·rw [(rk_find hrk.once e hy).2] at he
  refine w.callv number9_calls fun h4 w => ?_
  refine w.st1 0 rfl rfl rfl rfl fun h5 w => ?_
  exact fin9 x w 0 1 rfl rfl he
theorem names_flat (l : List Rank) : qs (l.flatMap fun r => [r.name]) = (l.map Rank.name).map toQ := by
 induction l with
 |nil => rfl
 |cons r l ih =>
  unfold qs at ih ⊢
  rw [List.flatMap_cons, List.map_append, ih]
  rfl
theorem zrange9 (p : P9 h0 kb sb mb c m S av A) (hs9 : S9 S) (hi : InS S) (hl : LaidN h0) (ht : K5.TabH h0) (hA : ∀ a ∈ A, a.size < 281474976710656) (x : As h0 h (c0 ab kb now av)) : CallsH Tryz.prog 107 [ptr ab] h (Cmd9 h0 h ab kb now av (cZrange S now A)) := by
 refine f107_calls (by simp) ?_
 intro b2 h1 g1
 have w := x.st.new g1
 refine sub9_go (i := 1) x w rfl (fun x => many9_calls p (by decide) x) ?_ ?_
 rotate_left
 ·rintro why h2 ⟨hB, rfl⟩ c2
  exact bad9 (arg3_bad hB) c2
 rintro _ h2 _ ⟨hb, k0, hk0, rfl⟩ w
 obtain ⟨k9, s, u, rfl⟩ := three_arg hb
 cases hk0
 refine sub9_go (i := 1) x w rfl (fun x => num9_calls (j := 1) p x hl rfl (hA s (by simp))) ?_ ?_
 rotate_left
 ·rintro why h3 ⟨hB, rfl⟩ c3
  refine bad9 ?_ c3
  show numbered s _ = _
  unfold numbered
  rw [hB]
 rintro _ h3 _ ⟨n, hn, rfl, rfl⟩ w
 have hnn : ∀ f, numbered s f = f n := fun f => by unfold numbered; rw [hn]
 refine sub9_go (i := 1) x w rfl (fun x => num9_calls (j := 2) p x hl rfl (hA u (by simp))) ?_ ?_
 rotate_left
 ·rintro why h3 ⟨hB, rfl⟩ c3
  refine bad9 ((hnn _).trans ?_) c3
  show numbered u _ = _
  unfold numbered
  rw [hB]
 rintro _ h3 _ ⟨n2, hn2, rfl, rfl⟩ w
 have hnn2 : ∀ f, numbered u f = f n2 := fun f => by unfold numbered; rw [hn2]
 refine sub9_go (i := 1) x w rfl (fun x => of9_calls p x) ?_ ?_
 rotate_left
 ·rintro why h4 ⟨hB, rfl⟩ c4
  exact bad9 ((hnn _).trans ((hnn2 _).trans (kindly_no hB))) c4
 rintro _ h4 _ ⟨hk, p2, w2, r2, rfl⟩ w
 have hrk := rk9 (key := k0) (now := now) hs9 hi
 have hrl := hrk.len
 have he : cZrange S now [k0, s, u] = _ := (hnn _).trans ((hnn2 _).trans (kindly_ok hk))
 generalize (getS S k0 now).getD zeroT = t at *
 have hsv := (w.thc 1 rfl).2.2
 obtain ⟨la, lc, rfl, _⟩ := hsv.form
 refine w.ldc 1 rfl rfl ?_
 refine callp (span_calls (by omega) (numOf_in hn) (numOf_in hn2)) ?_
 have hsp := spanN_le t.ranks.length n n2
 refine w.ldc 1 rfl rfl ?_
 refine call_ret (rof_calls (w.thc 1 rfl).2.2 hrk (tab9 ht (x.base w))) ?_
 rintro _ h3 ⟨⟨v, fp, rfl, rs⟩, c3⟩
 have w := w.ext c3
 refine call_ret (K5.atm_calls rs _ _) ?_
 rintro r h4 ⟨ol4, c4, _⟩
 have w := w.ext c4
 rw [K5.at_span hsp.1 hsp.2] at ol4
 refine call_ret (listRank_calls ol4.sl (by rw [List.length_take, List.length_drop]; omega)) ?_
 rintro _ h5 ⟨⟨ra, rn, rc, rfl, ol, fr⟩, c5⟩
 have hz := w.size
 have w := w.add (e := .o encQ 4 (.slice ra rn rc) _) c5 ol fr
 refine w.st1 1 rfl rfl rfl rfl fun h6 w => ?_
 refine finl9 x w 1 2 0 rfl rfl rfl (fun b hb => by have := fr b hb; omega) ?_
 rw [he, names_flat]
 rfl
theorem zby9 (p : P9 h0 kb sb mb c m S av A) (hs9 : S9 S) (hi : InS S) (hl : LaidN h0) (ht : K5.TabH h0) (hA : ∀ a ∈ A, a.size < 281474976710656) (x : As h0 h (c0 ab kb now av)) : CallsH Tryz.prog 108 [ptr ab] h (Cmd9 h0 h ab kb now av (cZby S now A)) := by
 refine f108_calls (by simp) ?_
 intro b2 h1 g1
 have w := x.st.new g1
 refine sub9_go (i := 1) x w rfl (fun x => many9_calls p (by decide) x) ?_ ?_
 rotate_left
 ·rintro why h2 ⟨hB, rfl⟩ c2
  exact bad9 (arg3_bad hB) c2
 rintro _ h2 _ ⟨hb, k0, hk0, rfl⟩ w
 obtain ⟨k9, s, u, rfl⟩ := three_arg hb
 cases hk0
 refine sub9_go (i := 1) x w rfl (fun x => num9_calls (j := 1) p x hl rfl (hA s (by simp))) ?_ ?_
 rotate_left
 ·rintro why h3 ⟨hB, rfl⟩ c3
  refine bad9 ?_ c3
  show numbered s _ = _
  unfold numbered
  rw [hB]
 rintro _ h3 _ ⟨n, hn, rfl, rfl⟩ w
 have hnn : ∀ f, numbered s f = f n := fun f => by unfold numbered; rw [hn]
 refine sub9_go (i := 1) x w rfl (fun x => num9_calls (j := 2) p x hl rfl (hA u (by simp))) ?_ ?_
 rotate_left
 ·rintro why h3 ⟨hB, rfl⟩ c3
  refine bad9 ((hnn _).trans ?_) c3
  show numbered u _ = _
  unfold numbered
  rw [hB]
 rintro _ h3 _ ⟨n2, hn2, rfl, rfl⟩ w
 have hnn2 : ∀ f, numbered u f = f n2 := fun f => by unfold numbered; rw [hn2]
 refine sub9_go (i := 1) x w rfl (fun x => of9_calls p x) ?_ ?_
 rotate_left
 ·rintro why h4 ⟨hB, rfl⟩ c4
  exact bad9 ((hnn _).trans ((hnn2 _).trans (kindly_no hB))) c4
 rintro _ h4 _ ⟨hk, p2, w2, r2, rfl⟩ w
 have hrk := rk9 (key := k0) (now := now) hs9 hi
 have hrl := hrk.len
 have he : cZby S now [k0, s, u] = _ := (hnn _).trans ((hnn2 _).trans (kindly_ok hk))
 generalize (getS S k0 now).getD zeroT = t at *
 refine w.ldc 1 rfl rfl ?_
 refine call_ret (rof_calls (w.thc 1 rfl).2.2 hrk (tab9 ht (x.base w))) ?_
 rintro _ h3 ⟨⟨v, fp, rfl, rs⟩, c3⟩
 have w := w.ext c3
 refine call_ret (K5.betweenm_calls rs _ _) ?_
 rintro r h4 ⟨ol4, c4, _⟩
 have w := w.ext c4
 unfold K5.betweenR at ol4
 rw [K5.sel_filter] at ol4
 have hfl := List.length_filter_le (fun r : Rank => decide (n ≤ r.score) && decide (r.score ≤ n2)) t.ranks
 refine call_ret (listRank_calls ol4.sl (by omega)) ?_
 rintro _ h5 ⟨⟨ra, rn, rc, rfl, ol, fr⟩, c5⟩
 have hz := w.size
 have w := w.add (e := .o encQ 4 (.slice ra rn rc) _) c5 ol fr
 refine w.st1 1 rfl rfl rfl rfl fun h6 w => ?_
 refine finl9 x w 1 2 0 rfl rfl rfl (fun b hb => by have := fr b hb; omega) ?_
 rw [he, names_flat]
 rfl
theorem zincr9 (p : P9 h0 kb sb mb c m S av A) (hs9 : S9 S) (hi : InS S) (hl : LaidN h0) (ht : K5.TabH h0) (hA : ∀ a ∈ A, a.size < 281474976710656) (x : As h0 h (c0 ab kb now av)) : CallsH Tryz.prog 104 [ptr ab] h (Cmd9 h0 h ab kb now av (cZincr S now A)) := by
 refine f104_calls (by simp) ?_
 intro b2 h1 g1
 have w := x.st.new g1
 refine sub9_go (i := 1) x w rfl (fun x => many9_calls p (by decide) x) ?_ ?_
 rotate_left
 ·rintro why h2 ⟨hB, rfl⟩ c2
  exact bad9 (arg3_bad hB) c2
 rintro _ h2 _ ⟨hb, k0, hk0, rfl⟩ w
 obtain ⟨k9, u, n, rfl⟩ := three_arg hb
 cases hk0
 refine sub9_go (i := 1) x w rfl (fun x => num9_calls (j := 1) p x hl rfl (hA u (by simp))) ?_ ?_
 rotate_left
 ·rintro why h3 ⟨hB, rfl⟩ c3
  refine bad9 ?_ c3
  show numbered u _ = _
  unfold numbered
  rw [hB]
 rintro _ h3 _ ⟨by_, hby, rfl, rfl⟩ w
 have hnn : ∀ f, numbered u f = f by_ := fun f => by unfold numbered; rw [hby]
 refine sub9_go (i := 1) x w rfl (fun x => of9_calls p x) ?_ ?_
 rotate_left
 ·rintro why h4 ⟨hB, rfl⟩ c4
  exact bad9 ((hnn _).trans (kindly_no hB)) c4
 rintro _ h4 _ ⟨hk, p2, w2, r2, rfl⟩ w
 have hrk := rk9 (key := k0) (now := now) hs9 hi
 have hrl := hrk.len
 have hk9 := hA k0 (by simp)
 have hn9 := hA n (by simp)
 have he : cZincr S now [k0, u, n] = _ := (hnn _).trans (kindly_ok hk)
 generalize (getS S k0 now).getD zeroT = t at *
 obtain ⟨b, o, cc, rfl⟩ := p.argF (by simp)
 refine w.ldc 1 rfl rfl ?_
 refine p.ix (x.base w) 2 rfl rfl ?_
 refine w.callv (score9_calls (w.get 1 rfl) hrk (tab9 ht (x.base w))) fun h5 w => ?_
 have hin : In64 ((scoreF t.ranks n).getD 0) := by
  unfold scoreF
  cases hf : t.ranks.find? fun r => decide (r.name = n) with
  |none => exact ⟨by decide, by decide⟩
  |some r => exact hrk.ri r (List.mem_of_find?_eq_some hf)
 have hth : thereR t.ranks n = (scoreF t.ranks n).isSome := rfl
 rw [hth] at he
 generalize scoreF t.ranks n = fo at he hin ⊢
 obtain ⟨pa, pc, rfl, _⟩ := (w.thc 1 rfl).2.2.form
 refine call_out9 (plus9_calls hin (numOf_in hby)) ?_ ?_
 rotate_left
 ·rintro why h8 ⟨hno, rfl, e⟩
  have e := e.symm
  subst e
  exact bad9 (he.trans (if_neg hno)) w.chg
 rintro _ h8 ⟨hok, rfl, e⟩
 have e := e.symm
 subst e
 have he := he.trans (if_pos hok)
 obtain ⟨z, hz9⟩ : ∃ z, z = fo.getD 0 + by_ := ⟨_, rfl⟩
 have hok : In64 z := by rw [hz9]; exact hok
 rw [← hz9] at he ⊢
 have fin : ∀ {h9 : Heap} {items : Nat} {M : List En}, items = t.ranks.length + (if fo.isSome = true then 0 else 1) → St (c0 ab kb now (.slice (some ⟨b, o, none⟩) 3 cc)).fp h h9 (.b b2 [.int .i64 0, .int .i64 0, .string ⟨#[]⟩, .slice none 0 0] :: cE ab kb now (.slice (some ⟨b, o, none⟩) 3 cc) k0 t (getS S k0 now).isSome p2 w2 (.slice pa t.ranks.length pc) nilV [] :: M) →
   swp Tryz.prog (.seq (.ops f104r9) (.seq (.ops f104r10) .ret))
    (retQ [.cn 2 4] (Cmd9 h0 h ab kb now (.slice (some ⟨b, o, none⟩) 3 cc) (cZincr S now [k0, u, n]))) (mk [(0, ptr ab), (2, ptr b2), (4, .int .i64 z), (6, .int .i64 items)]) [] h9 := by
  intro h9 items M hit w
  refine w.ldc 1 rfl rfl ?_
  refine p.ix (x.base w) 2 rfl rfl ?_
  refine sub9_go (i := 1) x w rfl (fun x => put9_calls p ⟨14, noText, n, noText, z⟩ x (by simp) (by omega) (by show n.size < _; omega) (by show noText.size < _; decide)) ?_ ?_
  rotate_left
  ·rintro why h11 ⟨hB, rfl⟩ c11
   refine bad9 (he.trans (mkNo9 fun hh => hB ⟨?_, hh.2.1, of_decide_eq_true hh.2.2, by show noText.size ≤ _; decide⟩)) c11
   have := hh.1
   rw [hit]
   push_cast
   split at this <;> simp_all
  rintro _ h11 _ ⟨hfit, lv11, rfl⟩ w
  refine w.callv (format_calls (hl.ext (x.base w)) hok.1 hok.2) fun h12 w => ?_
  refine w.callv text9_calls fun h12 w => ?_
  refine w.st1 0 rfl rfl rfl rfl fun h13 w => ?_
  refine fin9 x w 0 1 rfl rfl (he.trans (mkOk9 ⟨?_, hfit.2.1, decide_eq_true hfit.2.2.1⟩))
  have := hfit.1
  rw [hit] at this
  push_cast at this
  split <;> simp_all
 refine w.ldc 1 rfl rfl ?_
 refine cut_at [(0, ptr ab), (2, ptr b2), (4, .int .i64 z), (5, .bool fo.isSome), (6, .int .i64 t.ranks.length)] ⟨rfl, rfl, rfl, rfl, rfl, trivial⟩ ?_
 refine ass_go ?_
 refine not_go (v := fo.isSome) rfl rfl ?_
 refine cnd_go (t := !fo.isSome) rfl ?_
 cases fo with
 |none =>
  refine Ai rfl (fun z hz => ?_)
  have hz := add_in hz (by omega) (by omega)
  subst hz
  exact cut_at [(0, ptr ab), (2, ptr b2), (4, .int .i64 z), (6, .int .i64 (t.ranks.length + 1 : Nat))] ⟨rfl, rfl, rfl, rfl, trivial⟩ (fin rfl w)
 |some s =>
  refine skp_go ?_
  exact cut_at [(0, ptr ab), (2, ptr b2), (4, .int .i64 z), (6, .int .i64 t.ranks.length)] ⟨rfl, rfl, rfl, rfl, trivial⟩ (fin rfl w)
end
end Go.Proofs.YtjnijlnmbjjgpaaGreatDoor
namespace Go.Proofs.YtjnijlnmbjjgpaaGreatDoor
open Go Go.Sx C
namespace SI
def keysHeap (h : Heap) (mb : Nat) : Heap := h.push (.cells #[.map (some mb)] 189)
theorem keysHeap_chg (h : Heap) (mb : Nat) : Chg [] h (keysHeap h mb) := by
 refine ⟨by simp [keysHeap], fun k hk _ => ?_⟩
 unfold keysHeap
 rw [Array.getElem?_push, if_neg (by omega)]
theorem mKeys_calls {h : Heap} {mb : Nat} : CallsH Tryz.prog 174 [.map (some mb)] h (Ret fun r h' => r = .func (.func 236) #[] #[ptr h.size] ∧ h' = keysHeap h mb) := by
 refine ⟨by kernel_rfl, fun w hw => ?_⟩
 refine ((callsIn_wide (n := 5)).1 (Tryz.maps_Keys_174 (some mb) w)).mono ?_
 rintro e w' ⟨rfl, rfl⟩
 refine ⟨?_, by simp, rfl, rfl, rfl⟩
 subst hw
 exact ⟨rfl, rfl⟩
structure MK (h : Heap) (mb c : Nat) (ms : List MapEntry) (ks : List ByteArray) : Prop where
 map : MapB h mb ms c
 keys : ms.map (·.key) = ks.map Value.string
 small : ∀ k ∈ ks, k.size ≤ 1048576
 len : ms.length ≤ 65536
 born : ∀ e ∈ ms, e.born < c
 borns : (ms.map (·.born)).Nodup
 nodup : ks.Nodup
theorem MK.key {h : Heap} {mb c : Nat} {ms : List MapEntry} {ks : List ByteArray} (x : MK h mb c ms ks) : ∀ e ∈ ms, ∃ k ∈ ks, e.key = .string k ∧ k.size ≤ 1048576 := by
 intro e he
 have : e.key ∈ ms.map (·.key) := List.mem_map.2 ⟨e, he, rfl⟩
 rw [x.keys] at this
 obtain ⟨k, hk, e2⟩ := List.mem_map.1 this
 exact ⟨k, hk, e2.symm, x.small k hk⟩
theorem own_of {w : World} {mb c : Nat} {ms : List MapEntry} {ks : List ByteArray} (x : MK w.heap mb c ms ks) : w.ownsMap Tryz.prog 9 RN mb ms.length (.map ((((⟨ms⟩ : Array MapEntry)).toList.map (Go.WideElems.rg Tryz.prog 9 RN)).foldr DataW.insert []) : DataW Unit) := by
 have hl := x.len
 refine ⟨⟨ms⟩, c, x.map, ⟨?_, ⟨?_, ?_, ?_⟩, ?_⟩, by simp, rfl⟩
 ·have : (65536 : Nat) ≤ maxLen := by decide
  simp; omega
 ·exact x.born
 ·exact x.borns
 ·show (ms.map (·.key)).Nodup
  rw [x.keys]
  exact List.Pairwise.map Value.string (fun a b (hab : a ≠ b) => fun he => hab (by simpa using he)) x.nodup
 ·intro e he
  obtain ⟨k, _, hk, hs⟩ := x.key e he
  refine ⟨(.string (bytesL k), .nil), ?_⟩
  unfold Go.WideElems.rd
  rw [hk, key_reads _ hs]
  rfl
theorem strKeys_perm {h : Heap} {mb c : Nat} {ms : List MapEntry} {ks : List ByteArray} (x : MK h mb c ms ks) : (strKeys (.map ((((⟨ms⟩ : Array MapEntry)).toList.map (Go.WideElems.rg Tryz.prog 9 RN)).foldr DataW.insert []) : DataW Unit)).Perm (ks.map bytesL) := by
 unfold strKeys
 have h1 := Go.WideShapes.sorted_perm (((⟨ms⟩ : Array MapEntry)).toList.map (Go.WideElems.rg Tryz.prog 9 RN))
 refine (h1.map _).trans ?_
 rw [List.map_map]
 refine List.Perm.of_eq ?_
 have e : ks.map bytesL = (ks.map Value.string).map (fun v => match v with | .string s => bytesL s | _ => []) := by rw [List.map_map]; rfl
 rw [e, ← x.keys, List.map_map]
 refine List.map_congr_left fun i hi => ?_
 obtain ⟨k, _, hk, hs⟩ := x.key i hi
 simp only [Function.comp]
 unfold Go.WideElems.rg Go.WideElems.rd
 rw [hk, key_reads _ hs]
 rfl
theorem own_all {w : World} {mb c : Nat} {ms : List MapEntry} {ks : List ByteArray} (x : MK w.heap mb c ms ks) : ∃ D : DataW Unit, w.ownsMap Tryz.prog 9 RN mb ms.length D ∧ (strKeys D).Perm (ks.map bytesL) ∧ Go.Maps.size D = ms.length :=
 ⟨_, own_of x, strKeys_perm x, by rw [Go.Maps.size_eq, Go.length_sorted]; simp⟩
theorem sSorted_calls {h : Heap} {mb c : Nat} {ms : List MapEntry} {ks : List ByteArray} (x : MK h mb c ms ks) :
  CallsH Tryz.prog 119 [.func (.func 236) #[] #[ptr h.size]] (keysHeap h mb) (Ret fun r h' => ∃ L : List ByteArray, SL encS h' r L ∧ L.Perm ks ∧ L.Pairwise (fun a b => sless a b = true) ∧ (∀ b ∈ vblk r, h.size < b) ∧ Chg [] (keysHeap h mb) h') := by
 refine ⟨by kernel_rfl, fun w hw => ?_⟩
 let w0 : World := { w with heap := h }
 have ew : w0.alloc (.cells #[.map (some mb)] 189) = w := by
  show ({ w with heap := h.push _ } : World) = w
  rw [show h.push (.cells #[.map (some mb)] 189) = w.heap from hw.symm]
 have x0 : MK w0.heap mb c ms ks := x
 have hl := x.len
 obtain ⟨D, hown, hsk, hsz⟩ := own_all x0
 have h65 : (65536 : Nat) ≤ maxLen := by decide
 have key := Tryz.slices_Sorted_keys_119_174 (H := Unit) mb ms.length D RN w0 hown (by omega) (by omega)
 rw [ew] at key
 refine ((callsIn_wide (n := 5)).1 key).mono ?_
 rintro e w' ⟨v, ss, rfl, hp, hrow, hnil, hb⟩
 refine ⟨?_, by simp, hb.os, hb.output, hb.tape⟩
 have hperm : ss.Perm (ks.map bytesL) := hp.trans hsk
 have hms : (ss.mergeSort leB).Perm (ks.map bytesL) := (List.mergeSort_perm ss leB).trans hperm
 have tr : ∀ a b c : List UInt8, leB a b = true → leB b c = true → leB a c = true := fun a b c h1 h2 => by simp only [leB, decide_eq_true_eq] at *; exact List.le_trans h1 h2
 have to : ∀ a b : List UInt8, (leB a b || leB b a) = true := fun a b => by simp only [leB, Bool.or_eq_true, decide_eq_true_eq]; exact List.le_total a b
 have hpw : (ss.mergeSort leB).Pairwise (fun a b => leB a b = true) := List.pairwise_mergeSort tr to ss
 have hnd : (ss.mergeSort leB).Nodup := by
  refine hms.symm.nodup ?_
  exact List.Pairwise.map bytesL (fun a b (hab : a ≠ b) => fun he => hab (by cases a; cases b; simp_all [bytesL])) x.nodup
 have hsize : w.heap.size = h.size + 1 := by rw [hw]; simp [keysHeap]
 refine ⟨(ss.mergeSort leB).map ofL, ?_, ?_, ?_, ?_, ?_⟩
 ·-- the slice
  obtain ⟨hlen, hr⟩ := hrow
  have hsl : (ss.mergeSort leB).length = ss.length := (List.mergeSort_perm ss leB).length_eq
  rcases hr with ⟨rfl, hn⟩ | ⟨g, cap, cur, rfl, hg, hcur, hcap, hmax, hcs, htk⟩
  ·have : (ss.mergeSort leB).map ofL = [] := by rw [List.map_eq_nil_iff]; exact List.length_eq_zero_iff.1 (hsl.trans hn)
   rw [this]; exact SL.nil
  ·refine ⟨some ⟨g, 0, none⟩, cap, by rw [List.length_map, hsl], by rw [List.length_map, hsl]; exact hcap, ?_⟩
   intro i v hv
   have hfm : ∀ l : List (List UInt8), (l.map ofL).flatMap encS = l.map encStr := by
    intro l
    induction l with
    |nil => rfl
    |cons a l ih => rw [List.map_cons, List.flatMap_cons, ih]; rfl
   rw [hfm] at hv
   have htk' : cur.toList.take (ss.length * 1) = (ss.mergeSort leB).map encStr := htk
   rw [← htk'] at hv
   rw [Nat.zero_add]
   unfold Sx.cell
   rw [hcur]
   simp only
   rw [List.getElem?_take] at hv
   split at hv
   ·simpa using hv
   ·cases hv
 ·have : ks = (ks.map bytesL).map ofL := by rw [List.map_map]; exact (List.map_id' ks).symm
  rw [this]
  exact hms.map _
 ·refine List.Pairwise.map ofL (fun a b (hab : leB a b = true ∧ a ≠ b) => ?_) (hpw.and hnd)
  rw [sless_data, bl_lt]
  show a < b
  obtain ⟨h1, h2⟩ := hab
  simp only [leB, decide_eq_true_eq] at h1
  have hb : Op.bytesLess b a ≠ true := fun h => h1 ((bl_lt b a).1 h)
  rcases bl_total h2 with h | h
  ·exact (bl_lt a b).1 h
  ·exact absurd h hb
 ·intro b hb'
  obtain ⟨_, hr⟩ := hrow
  rcases hr with ⟨rfl, _⟩ | ⟨g, cap, cur, rfl, hg, _⟩
  ·simp [vblk, ablk] at hb'
  ·simp [vblk, ablk] at hb'
   subst hb'
   omega
 ·refine ⟨by rw [← hw]; exact hb.size, fun k hk _ => ?_⟩
  rw [← hw] at hk ⊢
  exact hb.block k hk
end SI
structure IM (ms : List MapEntry) (c : Nat) (ks : List ByteArray) (f : ByteArray → Nat) : Prop where
 keys : ms.map (·.key) = ks.map Value.string
 small : ∀ k ∈ ks, k.size ≤ 1048576
 born : ∀ e ∈ ms, e.born < c
 borns : (ms.map (·.born)).Nodup
 nodup : ks.Nodup
 val : ∀ k, (k ∉ ks ∧ mfind (.string k) ms 0 = none ∧ f k = 0) ∨ (k ∈ ks ∧ ∃ i, mfind (.string k) ms 0 = some (i, .int .i64 (f k)))
section
variable {ms : List MapEntry} {c : Nat} {ks : List ByteArray} {f : ByteArray → Nat} {k : ByteArray}
theorem IM.nil : IM [] 0 [] fun _ => 0 := ⟨rfl, by simp, by simp, List.nodup_nil, List.nodup_nil, fun k => .inl ⟨by simp, rfl, rfl⟩⟩
theorem IM.fits (x : IM ms c ks f) : ∀ e ∈ ms, fits .str e.key = true := fun e he => by
 have : e.key ∈ ms.map (·.key) := List.mem_map_of_mem he
 rw [x.keys] at this
 obtain ⟨k, _, e2⟩ := List.mem_map.1 this
 rw [← e2]; rfl
theorem IM.klen (x : IM ms c ks f) : ks.length = ms.length := by
 have := congrArg List.length x.keys
 simpa using this.symm
def bump (f : ByteArray → Nat) (k : ByteArray) : ByteArray → Nat := fun s => if s = k then f k + 1 else f s
theorem IM.put0 (x : IM ms c ks f) (hn : k ∉ ks) (h1 : mfind (.string k) ms 0 = none) (h0 : f k = 0) (hk : k.size ≤ 1048576) {n : Int} (e : n = 1) : IM (ms ++ [{ key := .string k, val := .int .i64 n, born := c }]) (c + 1) (ks ++ [k]) (bump f k) := by
 subst e
 refine ⟨by rw [List.map_append, List.map_append, x.keys]; rfl, fun k' hk' => ?_, fun e he => ?_, ?_, ?_, fun k' => ?_⟩
 ·rcases List.mem_append.1 hk' with h | h
  ·exact x.small k' h
  ·rw [List.mem_singleton.1 h]; exact hk
 ·rcases List.mem_append.1 he with h | h
  ·have := x.born e h; omega
  ·rw [List.mem_singleton.1 h]; exact Nat.lt_succ_self _
 ·rw [List.map_append, List.nodup_append]
  refine ⟨x.borns, by simp, fun a ha b hb => ?_⟩
  obtain ⟨e, he, rfl⟩ := List.mem_map.1 ha
  have := x.born e he
  simp at hb
  omega
 ·rw [List.nodup_append]
  exact ⟨x.nodup, by simp, fun a ha b hb e => hn (by simp at hb; rw [← hb, ← e]; exact ha)⟩
 ·rw [mfind_app x.fits h1]
  unfold bump
  by_cases h : k' = k
  ·rw [if_pos h, if_pos h]
   exact .inr ⟨by simp [h], 0 + ms.length, by rw [h0]; rfl⟩
  ·rw [if_neg h, if_neg h]
   rcases x.val k' with ⟨a, b, c⟩ | ⟨a, i, b⟩
   ·exact .inl ⟨by simp [a, h], b, c⟩
   ·exact .inr ⟨by simp [a], i, b⟩
theorem mod_map {α : Type} {g : MapEntry → α} {v : Value} (hg : ∀ e : MapEntry, g { e with val := v } = g e) : ∀ (ms : List MapEntry) (i : Nat), (ms.modify i fun e => { e with val := v }).map g = ms.map g := fun ms i => by
 refine List.ext_getElem? fun j => ?_
 rw [List.getElem?_map, List.getElem?_map, List.getElem?_modify]
 cases ms[j]? with
 |none => rfl
 |some e =>
  show some (g (if i = j then _ else e)) = some (g e)
  split
  ·rw [hg]
  ·rfl
theorem IM.put1 (x : IM ms c ks f) {i : Nat} (hm : k ∈ ks) (h1 : mfind (.string k) ms 0 = some (i, .int .i64 (f k))) {n : Int} (e : n = f k + 1) : IM (ms.modify i fun e => { e with val := .int .i64 n }) c ks (bump f k) := by
 subst e
 refine ⟨by rw [mod_map (g := MapEntry.key) fun _ => rfl]; exact x.keys, x.small, fun e he => ?_, by rw [mod_map (g := MapEntry.born) fun _ => rfl]; exact x.borns, x.nodup, fun k' => ?_⟩
 ·have hb : e.born ∈ (ms.modify i fun e => { e with val := .int .i64 (f k + 1) }).map (·.born) := List.mem_map_of_mem he
  rw [mod_map (g := MapEntry.born) fun _ => rfl] at hb
  obtain ⟨e2, he2, e3⟩ := List.mem_map.1 hb
  rw [← e3]; exact x.born e2 he2
 ·have h1' : mfind (.string k) ms 0 = some (0 + i, .int .i64 (f k)) := by rw [h1]; simp
  obtain ⟨m1, m2⟩ := mfind_mod (k' := k') (v := .int .i64 ((f k : Int) + 1)) x.fits h1'
  unfold bump
  by_cases h : k' = k
  ·rw [if_pos h]
   exact .inr ⟨by rw [h]; exact hm, 0 + i, m1 h⟩
  ·rw [if_neg h, m2 h]
   exact x.val k'
end
def stepF (f : ByteArray → Nat) (i : Nat) (l : List ByteArray) : ByteArray → Nat := fun s => if s ∈ l ∧ f s = i then i + 1 else f s
theorem stepF_nil {f : ByteArray → Nat} {i : Nat} : stepF f i [] = f := by
 funext s
 simp [stepF]
theorem stepF_yes {f : ByteArray → Nat} {i : Nat} {l : List ByteArray} {x : ByteArray} (hx : x ∉ l) (hf : f x = i) : bump (stepF f i l) x = stepF f i (l ++ [x]) := by
 funext s
 unfold bump stepF
 by_cases h : s = x
 ·subst h
  rw [if_pos rfl, if_neg (fun hh => hx hh.1), if_pos ⟨by simp, hf⟩, hf]
 ·rw [if_neg h]
  by_cases h2 : s ∈ l ∧ f s = i
  ·rw [if_pos h2, if_pos ⟨by simp [h2.1], h2.2⟩]
  ·rw [if_neg h2, if_neg]
   rintro ⟨h3, h4⟩
   simp [h] at h3
   exact h2 ⟨h3, h4⟩
theorem stepF_no {f : ByteArray → Nat} {i : Nat} {l : List ByteArray} {x : ByteArray} (hf : f x ≠ i) : stepF f i l = stepF f i (l ++ [x]) := by
 funext s
 unfold stepF
 by_cases h2 : s ∈ l ∧ f s = i
 ·rw [if_pos h2, if_pos ⟨by simp [h2.1], h2.2⟩]
 ·rw [if_neg h2, if_neg]
  rintro ⟨h3, h4⟩
  simp at h3
  rcases h3 with h3 | rfl
  ·exact h2 ⟨h3, h4⟩
  ·exact hf h4
theorem stepF_at {f : ByteArray → Nat} {i : Nat} {l : List ByteArray} {x : ByteArray} (hx : x ∉ l) : stepF f i l x = f x := if_neg fun h => hx h.1
theorem sorted_same {a b : List ByteArray} (ha : a.Pairwise fun x y => sless x y = true) (hb : b.Pairwise fun x y => sless x y = true) (h : ∀ s, s ∈ a ↔ s ∈ b) : a = b := by
 have na : a.Nodup := ha.imp fun h => sless_ne h
 have nb : b.Nodup := hb.imp fun h => sless_ne h
 refine List.Perm.eq_of_pairwise (le := fun x y => sless x y = true) (fun x y _ _ h1 h2 => ?_) ha hb ((List.perm_ext_iff_of_nodup na nb).2 h)
 exact absurd h2 (by rw [sless_no h1]; decide)
theorem sl_lt {h : Heap} {r : Value} {l : List ByteArray} (hs : SL encS h r l) (hne : l ≠ []) : ∀ b ∈ vblk r, b < h.size := by
 obtain ⟨a, c, rfl, hlc⟩ := hs.form
 have hp : 0 < l.length := List.length_pos_iff.2 hne
 obtain ⟨b, o, rfl⟩ := hs.addr hp
 intro b' hb'
 have hb' : b' = b := by simpa [vblk, ablk] using hb'
 subst hb'
 have hcs := hs.cells encS_len (List.getElem?_eq_getElem hp)
 exact cell_lt (hcs 0 _ rfl)
theorem sl_none {h h' : Heap} {r : Value} (hs : SL encS h r []) : SL encS h' r [] := by
 obtain ⟨a, c, rfl, hlc, hsrc⟩ := hs
 refine ⟨a, c, rfl, hlc, ?_⟩
 cases a with
 |none => exact hsrc
 |some ad =>
  obtain ⟨b, o, n⟩ := ad
  cases n with
  |none => exact fun i v hv => by simp at hv
  |some n => exact hsrc
def slE (r : Value) (l : List ByteArray) : En := .x (if l = [] then [] else vblk r) (fun h => SL encS h r l)
 (fun S h h' hc hn hs => by
  by_cases hl : l = []
  ·subst hl; exact sl_none hs
  ·rw [if_neg hl] at hn; exact hs.chg hc hn)
 (fun h hs b hb => by
  by_cases hl : l = []
  ·rw [if_pos hl] at hb; exact (nomatch hb)
  ·rw [if_neg hl] at hb; exact sl_lt hs hl b hb)
theorem slE_fp {r : Value} {l : List ByteArray} {b : Nat} (hb : b ∈ (slE r l).fp) : b ∈ vblk r := by
 have hb : b ∈ (if l = [] then [] else vblk r) := hb
 split at hb
 ·exact (nomatch hb)
 ·exact hb
section
variable {h0 h h1 h2 h' : Heap} {ab kb sb mb c b1 b2 : Nat} {now : Int} {av : Value} {A l : List ByteArray} {m : List KI} {S : Space}
def Gone9 (S : Space) (now : Int) (A : List ByteArray) (i : Nat) (f : ByteArray → Nat) (acc : List ByteArray) : Prop :=
 (∀ s, f s ≤ i) ∧ (0 < i → acc.Pairwise (fun x y => sless x y = true) ∧ (∀ s, f s = i ↔ s ∈ acc) ∧ cSinter S now A = interL S now acc (A.drop i) fun l => .ok (listR l, []))
theorem gone9_step {i : Nat} {f : ByteArray → Nat} {acc : List ByteArray} {key : ByteArray} (g : Gone9 S now A i f acc) (hl : A.length < 65536) (hk : A[i]? = some key) (hok : okK 4 (getS S key now) = true) (hso : ((getS S key now).getD zeroT).list.Pairwise fun a b => sless a b = true) :
  ∃ acc', Gone9 S now A (i + 1) (stepF f i ((getS S key now).getD zeroT).list) acc' := by
 obtain ⟨g1, g2⟩ := g
 have hil : i < A.length := (List.getElem?_eq_some_iff.1 hk).1
 have hke : A[i] = key := (List.getElem?_eq_some_iff.1 hk).2
 have hle : ∀ s, stepF f i ((getS S key now).getD zeroT).list s ≤ i + 1 := fun s => by
  have := g1 s
  unfold stepF
  split <;> omega
 have hdr : A.drop i = key :: A.drop (i + 1) := by rw [List.drop_eq_getElem_cons hil, hke]
 by_cases hi : i = 0
 ·subst hi
  refine ⟨((getS S key now).getD zeroT).list, hle, fun _ => ⟨hso, fun s => ?_, ?_⟩⟩
  ·have := g1 s
   unfold stepF
   constructor
   ·intro h
    split at h
    ·rename_i h2; exact h2.1
    ·omega
   ·intro h
    rw [if_pos ⟨h, by omega⟩]
  ·obtain ⟨ks, rfl⟩ : ∃ ks, A = key :: ks := ⟨A.drop 1, by simpa using hdr⟩
   have hl : ks.length + 1 < 65536 := hl
   show (if ks.length < 65536 then kindly S now 4 key fun t => interL S now t.list ks fun l => .ok (listR l, []) else .error wArgs) = _
   rw [if_pos (by omega), kindly_ok hok]
   rfl
 ·obtain ⟨g3, g4, g5⟩ := g2 (by omega)
  refine ⟨acc.filter (thereL ((getS S key now).getD zeroT).list), hle, fun _ => ⟨g3.filter _, fun s => ?_, ?_⟩⟩
  ·rw [List.mem_filter]
   unfold stepF thereL
   have h4 := g4 s
   have := g1 s
   constructor
   ·intro h
    split at h
    ·rename_i h2; exact ⟨h4.1 h2.2, decide_eq_true h2.1⟩
    ·omega
   ·rintro ⟨h5, h6⟩
    rw [if_pos ⟨of_decide_eq_true h6, h4.2 h5⟩]
  ·rw [g5, hdr]
   show kindly S now 4 key (fun t => interL S now (acc.filter (thereL t.list)) (A.drop (i + 1)) fun l => .ok (listR l, [])) = _
   rw [kindly_ok hok]
theorem gone9_bad {i : Nat} {f : ByteArray → Nat} {acc : List ByteArray} {key : ByteArray} (g : Gone9 S now A i f acc) (hl : A.length < 65536) (hk : A[i]? = some key) (hok : okK 4 (getS S key now) = false) : cSinter S now A = .error wType := by
 have hil : i < A.length := (List.getElem?_eq_some_iff.1 hk).1
 have hke : A[i] = key := (List.getElem?_eq_some_iff.1 hk).2
 have hdr : A.drop i = key :: A.drop (i + 1) := by rw [List.drop_eq_getElem_cons hil, hke]
 by_cases hi : i = 0
 ·subst hi
  obtain ⟨ks, rfl⟩ : ∃ ks, A = key :: ks := ⟨A.drop 1, by simpa using hdr⟩
  have hl : ks.length + 1 < 65536 := hl
  show (if ks.length < 65536 then kindly S now 4 key fun t => interL S now t.list ks fun l => .ok (listR l, []) else .error wArgs) = _
  rw [if_pos (by omega), kindly_no hok]
 ·rw [(g.2 (by omega)).2.2, hdr]
  exact kindly_no hok
set_option maxHeartbeats 2000000 in
theorem sinter9 (p : P9 h0 kb sb mb c m S av A) (hs9 : S9 S) (hi : InS S) (hA : A.length ≤ 30) (x : As h0 h (c0 ab kb now av)) : CallsH Tryz.prog 100 [ptr ab] h (Cmd9 h0 h ab kb now av (cSinter S now A)) := by
 refine f100_calls (by simp) ?_
 intro b2 h1 g1
 have w := x.st.new g1
 refine sub9_go (i := 1) x w rfl (fun x => many9_calls p (by decide) x) ?_ ?_
 rotate_left
 ·rintro why h2 ⟨hB, rfl⟩ c2
  refine bad9 ?_ c2
  cases A with
  |nil => rfl
  |cons k0 l => exact absurd ⟨by simp; omega, by simp at hA ⊢; omega⟩ hB
 rintro _ h2 _ ⟨hb, k0, hk0, rfl⟩ w
 obtain ⟨ba, oa, ac, rfl⟩ := p.argF (by omega)
 intro mb2 h3 g3
 have w := w.newm g3
 refine w.ldc 2 rfl rfl ?_
 refine loop_intro (fun i : Nat => [(0, ptr ab), (2, ptr b2), (3, .map (some mb2)), (17, .slice (some ⟨ba, oa, none⟩) A.length ac), (18, .int .i64 A.length), (19, .int .i64 i)])
  (fun i h' => i ≤ A.length ∧ ∃ ms cc ks f acc key t is pv lw rv, IM ms cc ks f ∧ ms.length ≤ 2000 * i ∧ Gone9 S now A i f acc ∧
   St (c0 ab kb now (.slice (some ⟨ba, oa, none⟩) A.length ac)).fp h h' [.m mb2 ms cc, .b b2 [.int .i64 0, .int .i64 0, .string ⟨#[]⟩, .slice none 0 0], cE ab kb now (.slice (some ⟨ba, oa, none⟩) A.length ac) key t is pv lw rv nilV []])
  (fun i => A.length - i) 0 ⟨rfl, rfl, rfl, rfl, rfl, rfl, trivial⟩ ⟨Nat.zero_le _, [], 0, [], fun _ => 0, [], _, _, _, _, _, _, IM.nil, Nat.zero_le _, ⟨fun _ => Nat.le_refl _, fun h9 => absurd h9 (by decide)⟩, w⟩ ?_
 rintro i h4 ⟨hil, ms, cc, ks, f, acc, key, t, is, pv, lw, rv, im, hml, gn, w⟩
 refine Ai rfl (Ai (fun hlt => ?_) (fun hge => ?_))
 ·have hlt : i < A.length := by omega
  obtain ⟨s, hs⟩ : ∃ s, A[i]? = some s := ⟨_, List.getElem?_eq_getElem hlt⟩
  refine p.ix (x.base w) i rfl hs ?_
  refine w.ckey 2 rfl fun h5 w => ?_
  refine sub9_go (i := 2) x w rfl (fun x => of9_calls p x) ?_ ?_
  rotate_left
  ·rintro why h6 ⟨hB, rfl⟩ c6
   exact bad9 (gone9_bad gn (by omega) hs hB) c6
  rintro _ h6 _ ⟨hk, p2, w2, r2, rfl⟩ w
  have htl := (hs9.get s now).ls
  have htz := (hs9.get s now).lz
  have hso := set_sorted hi hk
  obtain ⟨acc2, gn2⟩ := gone9_step gn (by omega) hs hk hso
  generalize (getS S s now).getD zeroT = t at *
  obtain ⟨la, lc, rfl, _⟩ := (w.thc 2 rfl).2.1.form
  have hnd : t.list.Nodup := hso.imp fun h => sless_ne h
  refine w.ldc 2 rfl rfl ?_
  refine loop_intro (fun j : Nat => [(0, ptr ab), (2, ptr b2), (3, .map (some mb2)), (4, .int .i64 i), (17, .slice (some ⟨ba, oa, none⟩) A.length ac), (18, .int .i64 A.length), (19, .int .i64 i), (34, .slice la t.list.length lc), (35, .int .i64 t.list.length), (36, .int .i64 j)])
   (fun j h' => j ≤ t.list.length ∧ ∃ ms cc ks, IM ms cc ks (stepF f i (t.list.take j)) ∧ ms.length ≤ 2000 * i + j ∧
    St (c0 ab kb now (.slice (some ⟨ba, oa, none⟩) A.length ac)).fp h h' [.m mb2 ms cc, .b b2 [.int .i64 0, .int .i64 0, .string ⟨#[]⟩, .slice none 0 0], cE ab kb now (.slice (some ⟨ba, oa, none⟩) A.length ac) s t (getS S s now).isSome p2 (.slice la t.list.length lc) r2 nilV []])
   (fun j => t.list.length - j) 0 ⟨rfl, rfl, rfl, rfl, rfl, rfl, rfl, rfl, rfl, rfl, trivial⟩ ⟨Nat.zero_le _, ms, cc, ks, by rw [List.take_zero, stepF_nil]; exact im, by omega, w⟩ ?_
  clear im w hml
  rintro j h7 ⟨hjl, ms, cc, ks, im, hml, w⟩
  refine Ai rfl (Ai (fun hlt2 => ?_) (fun hge2 => ?_))
  ·have hlt2 : j < t.list.length := by omega
   obtain ⟨b, o, rfl⟩ := (w.thc 2 rfl).2.1.addr (by omega)
   obtain ⟨y, hy⟩ : ∃ y, y = t.list[j] := ⟨_, rfl⟩
   have hyz := htz y (by rw [hy]; exact List.getElem_mem hlt2)
   have htk : t.list.take (j + 1) = t.list.take j ++ [y] := by rw [List.take_succ_eq_append_getElem hlt2, hy]
   have hyn : y ∉ t.list.take j := fun hm => by
    have h9 : t.list.take (j + 1) = t.list.take j ++ [y] := htk
    have h8 := hnd.sublist (List.take_sublist (j + 1) t.list)
    rw [h9, List.nodup_append] at h8
    exact h8.2.2 y hm y (by simp) rfl
   have hfy := stepF_at (f := f) (i := i) hyn
   refine sl_ix (s := y) (w.thc 2 rfl).2.1 j rfl (by rw [hy]; exact List.getElem?_eq_getElem hlt2) ?_
   have gfy : f y ≤ i := gn.1 y
   have next : ∀ {h8 : Heap} {ms : List MapEntry} {cc : Nat} {ks : List ByteArray}, IM ms cc ks (stepF f i (t.list.take (j + 1))) → ms.length ≤ 2000 * i + (j + 1) →
     St (c0 ab kb now (.slice (some ⟨ba, oa, none⟩) A.length ac)).fp h h8 [.m mb2 ms cc, .b b2 [.int .i64 0, .int .i64 0, .string ⟨#[]⟩, .slice none 0 0], cE ab kb now (.slice (some ⟨ba, oa, none⟩) A.length ac) s t (getS S s now).isSome p2 (.slice (some ⟨b, o, none⟩) t.list.length lc) r2 nilV []] →
     j + 1 ≤ t.list.length ∧ ∃ ms cc ks, IM ms cc ks (stepF f i (t.list.take (j + 1))) ∧ ms.length ≤ 2000 * i + (j + 1) ∧ St (c0 ab kb now (.slice (some ⟨ba, oa, none⟩) A.length ac)).fp h h8 [.m mb2 ms cc, .b b2 [.int .i64 0, .int .i64 0, .string ⟨#[]⟩, .slice none 0 0], cE ab kb now (.slice (some ⟨ba, oa, none⟩) A.length ac) s t (getS S s now).isSome p2 (.slice (some ⟨b, o, none⟩) t.list.length lc) r2 nilV []] :=
    fun a b c => ⟨hlt2, _, _, _, a, b, c⟩
   rcases im.val y with ⟨hn, e1, hf0⟩ | ⟨hm, q, e1⟩
   ·have hf0 : f y = 0 := hfy.symm.trans hf0
    refine Ai rfl (Ei ms (Ei cc (Ai (w.get 0 rfl) (Ai im.fits ?_))))
    rw [e1]
    refine Ai rfl (Ai (fun heq => ?_) (fun hne => ?_))
    ·have hi0 : i = 0 := by omega
     refine Ai rfl (Ei ms (Ei cc (Ai (w.get 0 rfl) (Ai im.fits ?_))))
     rw [e1]
     refine Ai rfl (fun z hz => ?_)
     have hz : z = 1 := by have := add_in hz (by omega) (by omega); omega
     subst hz
     refine Ai rfl (Ei ms (Ei cc (Ai (w.get 0 rfl) (Ai im.fits ?_))))
     rw [e1]
     intro h8 p8
     have w := w.mput 0 rfl p8
     have im2 := im.put0 hn e1 (hfy.trans hf0) (by omega) rfl
     rw [stepF_yes hyn (by omega), ← htk] at im2
     refine Ai rfl (fun z hz => ?_)
     have hz := add_in hz (by omega) (by omega)
     subst hz
     exact Ai rfl (Ei (j + 1) (Ai ⟨rfl, rfl, rfl, rfl, rfl, rfl, rfl, rfl, rfl, rfl, trivial⟩ (Ai (next im2 (by simp; omega) w) (by omega))))
    ·rw [stepF_no (x := y) (by omega), ← htk] at im
     refine Ai rfl (fun z hz => ?_)
     have hz := add_in hz (by omega) (by omega)
     subst hz
     exact Ai rfl (Ei (j + 1) (Ai ⟨rfl, rfl, rfl, rfl, rfl, rfl, rfl, rfl, rfl, rfl, trivial⟩ (Ai (next im (by omega) w) (by omega))))
   ·refine Ai rfl (Ei ms (Ei cc (Ai (w.get 0 rfl) (Ai im.fits ?_))))
    rw [e1]
    refine Ai rfl (Ai (fun heq => ?_) (fun hne => ?_))
    ·have hfi : f y = i := by rw [hfy] at heq; omega
     refine Ai rfl (Ei ms (Ei cc (Ai (w.get 0 rfl) (Ai im.fits ?_))))
     rw [e1]
     refine Ai rfl (fun z hz => ?_)
     have hz := add_in hz (by omega) (by omega)
     subst hz
     refine Ai rfl (Ei ms (Ei cc (Ai (w.get 0 rfl) (Ai im.fits ?_))))
     rw [e1]
     intro h8 p8
     have w := w.mput 0 rfl p8
     have im2 := im.put1 hm e1 rfl
     rw [stepF_yes hyn hfi, ← htk] at im2
     refine Ai rfl (fun z hz => ?_)
     have hz := add_in hz (by omega) (by omega)
     subst hz
     exact Ai rfl (Ei (j + 1) (Ai ⟨rfl, rfl, rfl, rfl, rfl, rfl, rfl, rfl, rfl, rfl, trivial⟩ (Ai (next im2 (by rw [List.length_modify]; omega) w) (by omega))))
    ·have hfi : f y ≠ i := fun e => hne (by rw [hfy]; omega)
     rw [stepF_no hfi, ← htk] at im
     refine Ai rfl (fun z hz => ?_)
     have hz := add_in hz (by omega) (by omega)
     subst hz
     exact Ai rfl (Ei (j + 1) (Ai ⟨rfl, rfl, rfl, rfl, rfl, rfl, rfl, rfl, rfl, rfl, trivial⟩ (Ai (next im (by omega) w) (by omega))))
  ·have hj : j = t.list.length := by omega
   subst hj
   rw [List.take_length] at im
   refine Ai rfl (fun z hz => ?_)
   have hz := add_in hz (by omega) (by omega)
   subst hz
   exact Ai rfl (Ei (i + 1) (Ai ⟨rfl, rfl, rfl, rfl, rfl, rfl, trivial⟩ (Ai ⟨hlt, ms, cc, ks, _, acc2, _, _, _, _, _, _, im, by omega, gn2, w⟩ (by omega))))
 ·have hin : i = A.length := by omega
  subst hin
  obtain ⟨g1, g2⟩ := gn
  obtain ⟨g3, g4, g5⟩ := g2 (by omega)
  rw [List.drop_length] at g5
  have he : cSinter S now A = .ok (listR acc, []) := g5
  have hM : MapB h4 mb2 ms cc := w.get 0 rfl
  refine call_ret SI.mKeys_calls ?_
  rintro _ h5 ⟨rfl, rfl⟩
  have w5 := w.ext (SI.keysHeap_chg h4 mb2)
  refine call_ret (SI.sSorted_calls (mb := mb2) (c := cc) (ms := ms) (ks := ks) ⟨hM, im.keys, im.small, by omega, im.born, im.borns, im.nodup⟩) ?_
  rintro r h6 ⟨Lk, hLs, hLp, hLo, hfb, c6⟩
  have w := w5.add (e := slE r Lk) c6 hLs (fun b hb => by
   have := hfb b (slE_fp hb)
   show (SI.keysHeap h4 mb2).size ≤ b
   unfold SI.keysHeap
   simp; omega)
  have hkl := im.klen
  have hLl : Lk.length ≤ 60000 := by rw [hLp.length_eq, hkl]; omega
  obtain ⟨ra, rc, rfl, _⟩ := hLs.form
  have hfin : Lk.filter (fun s => decide (f s = A.length)) = acc := sorted_same (hLo.filter _) g3 fun s => by
   rw [List.mem_filter, hLp.mem_iff, ← g4 s]
   constructor
   ·rintro ⟨_, h9⟩; exact of_decide_eq_true h9
   ·intro h9
    refine ⟨?_, decide_eq_true h9⟩
    rcases im.val s with ⟨_, _, h0⟩ | ⟨hm, _⟩
    ·omega
    ·exact hm
  have w := w.empty (enc := encS) (size := 1)
  refine loop_intro (fun q : Nat × Value => [(0, ptr ab), (2, ptr b2), (3, .map (some mb2)), (8, q.2), (53, .slice ra Lk.length rc), (54, .int .i64 Lk.length), (55, .int .i64 q.1)])
   (fun q h' => q.1 ≤ Lk.length ∧ St (c0 ab kb now (.slice (some ⟨ba, oa, none⟩) A.length ac)).fp h h' [.o encS 1 q.2 ((Lk.take q.1).filter fun s => decide (f s = A.length)), slE (.slice ra Lk.length rc) Lk, .m mb2 ms cc, .b b2 [.int .i64 0, .int .i64 0, .string ⟨#[]⟩, .slice none 0 0],
    cE ab kb now (.slice (some ⟨ba, oa, none⟩) A.length ac) key t is pv lw rv nilV []])
   (fun q => Lk.length - q.1) (0, .slice none 0 0) ⟨rfl, rfl, rfl, rfl, rfl, rfl, rfl, trivial⟩ ⟨Nat.zero_le _, w⟩ ?_
  rintro ⟨q, v⟩ h7 ⟨hq, w⟩
  replace hq : q ≤ Lk.length := hq
  have hfl := List.length_filter_le (fun s => decide (f s = A.length)) (Lk.take q)
  rw [List.length_take] at hfl
  obtain ⟨a7, c7, rfl, _⟩ := (show OL encS 1 h7 v ((Lk.take q).filter fun s => decide (f s = A.length)) from w.get 0 rfl).sl.form
  refine Ai rfl (Ai (fun hlt => ?_) (fun hge2 => ?_))
  ·have hlt : q < Lk.length := by omega
   have hSL : SL encS h7 (.slice ra Lk.length rc) Lk := w.get 1 rfl
   obtain ⟨b, o, rfl⟩ := hSL.addr (by omega)
   obtain ⟨y, hy⟩ : ∃ y, y = Lk[q] := ⟨_, rfl⟩
   have hym : y ∈ ks := hLp.mem_iff.1 (by rw [hy]; exact List.getElem_mem hlt)
   have htk : Lk.take (q + 1) = Lk.take q ++ [y] := by rw [List.take_succ_eq_append_getElem hlt, hy]
   refine sl_ix (s := y) hSL q rfl (by rw [hy]; exact List.getElem?_eq_getElem hlt) ?_
   rcases im.val y with ⟨hn, _⟩ | ⟨_, p1, e1⟩
   ·exact absurd hym hn
   refine Ai rfl (Ei ms (Ei cc (Ai (w.get 2 rfl) (Ai im.fits ?_))))
   rw [e1]
   refine w.ldc 4 rfl rfl ?_
   refine Ai rfl (Ai (fun heq => ?_) (fun hne => ?_))
   ·have hfy : decide (f y = A.length) = true := decide_eq_true (by omega)
    intro b8 h8 g8
    have w := w.new g8
    refine w.app 1 rfl encS_len encS_one rfl (SL.one encS_len (x := y) (w.get 0 rfl)) (by simp only [List.length_singleton]; omega) fun v' h9 w => ?_
    have hsn : (Lk.take q).filter (fun s => decide (f s = A.length)) ++ [y] = (Lk.take (q + 1)).filter fun s => decide (f s = A.length) := by
     rw [htk, List.filter_append, List.filter_cons, hfy]; rfl
    rw [hsn] at w
    have w := w.pick [1, 2, 3, 4, 5] (by decide)
    refine Ai rfl (fun z hz => ?_)
    have hz := add_in hz (by omega) (by omega)
    subst hz
    exact Ai rfl (Ei (q + 1, v') (Ai ⟨rfl, rfl, rfl, rfl, rfl, rfl, rfl, trivial⟩ (Ai ⟨hlt, w⟩ (by simp only; omega))))
   ·have hfy : decide (f y = A.length) = false := decide_eq_false (by omega)
    have hsn : (Lk.take q).filter (fun s => decide (f s = A.length)) = (Lk.take (q + 1)).filter fun s => decide (f s = A.length) := by
     rw [htk, List.filter_append, List.filter_cons, hfy]; simp
    have ew : (En.o encS 1 (.slice a7 ((Lk.take q).filter fun s => decide (f s = A.length)).length c7) ((Lk.take q).filter fun s => decide (f s = A.length))) = .o encS 1 (.slice a7 ((Lk.take q).filter fun s => decide (f s = A.length)).length c7) ((Lk.take (q + 1)).filter fun s => decide (f s = A.length)) := by rw [← hsn]
    rw [ew] at w
    refine Ai rfl (fun z hz => ?_)
    have hz := add_in hz (by omega) (by omega)
    subst hz
    exact Ai rfl (Ei (q + 1, _) (Ai ⟨rfl, rfl, rfl, rfl, rfl, rfl, rfl, trivial⟩ (Ai ⟨hlt, w⟩ (by simp only; omega))))
  ·have hql : q = Lk.length := by omega
   subst hql
   have hO : OL encS 1 h7 (.slice a7 ((Lk.take Lk.length).filter fun s => decide (f s = A.length)).length c7) ((Lk.take Lk.length).filter fun s => decide (f s = A.length)) := w.get 0 rfl
   refine call_ret (listStr_calls hO.sl (by omega)) ?_
   rintro _ h8 ⟨⟨ra8, rn8, rc8, rfl, ol, fr⟩, c8⟩
   have hz := w.size
   have w := w.add (e := .o encQ 4 (.slice ra8 rn8 rc8) _) c8 ol fr
   refine w.st1 4 rfl rfl rfl rfl fun h9 w => ?_
   refine finl9 x w 4 5 0 rfl rfl rfl (fun b hb => by have := fr b hb; omega) ?_
   rw [he, List.take_length, hfin]
   simp [listR, qs, toQ]
end
end Go.Proofs.YtjnijlnmbjjgpaaGreatDoor
namespace Go.Proofs.YtjnijlnmbjjgpaaGreatDoor
open Go Go.Sx C
theorem do9_empty {h : Heap} {kv nv : Value} {a : Option Addr} {cc : Nat} : CallsH Tryz.prog 20 [kv, nv, .slice a 0 cc] h (Ret fun r h' => r = nothing8 ∧ Chg [] h h') := by
 refine do9_D (by simp) ?_
 intro b6 h1 g1
 have w := (St.start h).new g1
 intro b7 h2 g2
 have w := w.new g2
 refine Ai rfl (Ai (fun _ => ?_) (fun h0 => absurd rfl h0))
 refine w.st1 1 rfl rfl rfl rfl fun h5 w => ?_
 refine w.st1 0 rfl rfl rfl rfl fun h6 w => ?_
 exact ⟨_, rfl, cells_blk (w.get 1 rfl), _, cell_blk (w.get 0 rfl) rfl, rfl, w.chg⟩
theorem do9_none {h : Heap} {kb sb mb c : Nat} {now : Int} {av : Value} {w W : ByteArray} {A : List ByteArray} {m : List KI} (kr : KR h kb sb mb c m) (hA : SL encS h av (w :: A)) (hl : (w :: A).length < 4611686018427387904) (hz : w.size < 4611686018427387904) (hno : look9 cmd9 (up w) = none) :
  CallsH Tryz.prog 20 [ptr kb, .int .i64 now, av] h (Ret fun r h' => r = nothing8 ∧ Chg [] h h') := by
 obtain ⟨a, cc, rfl, hcc⟩ := hA.form
 obtain ⟨b0, o0, rfl⟩ := hA.addr (by simp)
 refine do9_D (by simp) ?_
 intro b6 h1 g1
 have w1 := (St.start h).new g1
 intro b7 h2 g2
 have w2 := w1.new g2
 have c2 : Chg [] h h2 := w2.chg
 refine Ai rfl (Ai (fun h0 => absurd h0 (by simp; omega)) (fun _ => ?_))
 refine callp (same_nil (kr.ext c2).ks) ?_
 have hA2 := hA.ext c2
 have hc0 := hA2.cells encS_len (i := 0) (x := w) (by simp)
 refine Ai (by decide) (Ai (by simp) (Ei _ (Ai (by simpa using hc0 0 _ rfl) ?_)))
 refine callq_ret cmds9_calls ?_
 rintro _ h3 ⟨c3, b, es, c', rfl, hm, hfit, hfd⟩
 refine Ai c3.ext ?_
 refine callq_ret (lword_calls hz) ?_
 rintro _ h4 ⟨rfl, c4⟩
 refine Ai c4.ext ?_
 refine Ai rfl (Ei es (Ei c' (Ai (hm.chg c4 (by simp)) (Ai hfit ?_))))
 have hfind := hfd (up w)
 rw [hno] at hfind
 have hfind : mfind (.string (up w)) es 0 = none := hfind
 rw [hfind]
 have w4 := (w2.ext c3).ext c4
 refine w4.st1 1 rfl rfl rfl rfl fun h5 w5 => ?_
 refine w5.st1 0 rfl rfl rfl rfl fun h6 w6 => ?_
 exact ⟨_, rfl, cells_blk (w6.get 1 rfl), _, cell_blk (w6.get 0 rfl) rfl, rfl, w6.chg⟩
theorem look9_mem : ∀ {L : List (List UInt8 × Nat)} {w : ByteArray} {g : Nat}, look9 L w = some g → g ∈ L.map (·.2)
 |[], w, g, h => by cases h
 |(n, g') :: L, w, g, h => by
  simp only [look9] at h
  split at h
  ·cases h; simp
  ·simp [look9_mem h]
theorem do9_any {h : Heap} {kb sb mb c : Nat} {now : Int} {av : Value} {A : List ByteArray} {m : List KI} {S : Space} (kr : KR h kb sb mb c m) (hs : Sorted m S) (s8 : S8 S) (hs9 : S9 S) (hla : LaidN h) (ht : K5.TabH h)
  (hA : SL encS h av A) (hl : A.length ≤ 20) (hz : ∀ s ∈ A, s.size ≤ 300) : CallsH Tryz.prog 20 [ptr kb, .int .i64 now, av] h (Ret (AnyR h S)) := by
 have few := s8.few
 have hi := few.ins
 match A, hA, hl, hz with
 |[], hA, _, _ =>
  obtain ⟨a, cc, rfl, _⟩ := hA.form
  exact do9_empty.mono fun e h' he => by
   cases e with
   |returned v => exact .inl he
   |panicked ch => exact he
   |outgrown => exact he
 |w :: A, hA, hl, hz =>
  have hl : A.length + 1 ≤ 20 := hl
  have hlA : A.length ≤ 20 := by omega
  have hzw := hz w (by simp)
  have hll : (w :: A).length < 4611686018427387904 := by simp only [List.length_cons]; omega
  have hz3 : ∀ s ∈ A, s.size ≤ 300 := fun s hs => hz s (by simp [hs])
  have hzA : ∀ s ∈ A, s.size < 281474976710656 := fun s hs => by have := hz3 s hs; omega
  cases hf : look9 cmd9 (up w) with
  |none =>
   exact (do9_none (W := w) kr hA hll (by omega) hf).mono fun e h' he => by
    cases e with
    |returned v => exact .inl he
    |panicked ch => exact he
    |outgrown => exact he
  |some g =>
   have ok : ∀ {res : Res}, Fine S res → CallsH Tryz.prog 20 [ptr kb, .int .i64 now, av] h (Ret (DoR h res)) → CallsH Tryz.prog 20 [ptr kb, .int .i64 now, av] h (Ret (AnyR h S)) := fun {res} hfi hc => hc.mono fun e h' he => by
    cases e with
    |returned v => exact .inr ⟨res, hfi, he⟩
    |panicked ch => exact he
    |outgrown => exact he
   have hm := look9_mem hf
   simp only [cmd9, List.map_cons, List.map_nil, List.mem_cons, List.not_mem_nil, or_false] at hm
   rcases hm with rfl | rfl | rfl | rfl | rfl | rfl | rfl | rfl | rfl | rfl | rfl | rfl | rfl | rfl | rfl | rfl | rfl | rfl | rfl | rfl | rfl | rfl | rfl | rfl | rfl | rfl | rfl | rfl
   ·exact ok (fine_hset few hs9 hlA) (do9_calls kr hA hll (by omega) hf fun h1 ab av' hx x => hset9 ⟨kr, hs, hx⟩ hs9 hzA x)
   ·exact ok fine_hget (do9_calls kr hA hll (by omega) hf fun h1 ab av' hx x => hget9 ⟨kr, hs, hx⟩ hs9 x)
   ·exact ok (fine_hdel few hs9 hlA hz3) (do9_calls kr hA hll (by omega) hf fun h1 ab av' hx x => hdel9 ⟨kr, hs, hx⟩ hs9 x)
   ·exact ok fine_hlen (do9_calls kr hA hll (by omega) hf fun h1 ab av' hx x => hlen9 ⟨kr, hs, hx⟩  x)
   ·exact ok fine_hall (do9_calls kr hA hll (by omega) hf fun h1 ab av' hx x => hall9 ⟨kr, hs, hx⟩ hs9 x)
   ·exact ok (fine_hincr few hs9) (do9_calls kr hA hll (by omega) hf fun h1 ab av' hx x => hincr9 ⟨kr, hs, hx⟩ hs9 hla hzA x)
   ·exact ok (fine_lpush few hs9 hlA) (do9_calls kr hA hll (by omega) hf fun h1 ab av' hx x => lpush9 ⟨kr, hs, hx⟩ hs9 hzA x)
   ·exact ok (fine_rpush few hs9 hlA) (do9_calls kr hA hll (by omega) hf fun h1 ab av' hx x => rpush9 ⟨kr, hs, hx⟩ hs9 hzA x)
   ·exact ok (fine_lpop few hs9) (do9_calls kr hA hll (by omega) hf fun h1 ab av' hx x => lpop9 ⟨kr, hs, hx⟩ hs9 x)
   ·exact ok (fine_rpop few hs9) (do9_calls kr hA hll (by omega) hf fun h1 ab av' hx x => rpop9 ⟨kr, hs, hx⟩ hs9 x)
   ·exact ok fine_llen (do9_calls kr hA hll (by omega) hf fun h1 ab av' hx x => llen9 ⟨kr, hs, hx⟩  x)
   ·exact ok fine_lindex (do9_calls kr hA hll (by omega) hf fun h1 ab av' hx x => lindex9 ⟨kr, hs, hx⟩ hs9 hla hzA x)
   ·exact ok fine_lrange (do9_calls kr hA hll (by omega) hf fun h1 ab av' hx x => lrange9 ⟨kr, hs, hx⟩ hs9 hla hzA x)
   ·exact ok (fine_lset few hs9) (do9_calls kr hA hll (by omega) hf fun h1 ab av' hx x => lset9 ⟨kr, hs, hx⟩ hs9 hla hzA x)
   ·exact ok (fine_sadd few hs9 hlA) (do9_calls kr hA hll (by omega) hf fun h1 ab av' hx x => sadd9 ⟨kr, hs, hx⟩ hs9 hi hzA x)
   ·exact ok (fine_srem few hs9 hlA hz3) (do9_calls kr hA hll (by omega) hf fun h1 ab av' hx x => srem9 ⟨kr, hs, hx⟩ hs9 hi x)
   ·exact ok fine_sis (do9_calls kr hA hll (by omega) hf fun h1 ab av' hx x => sis9 ⟨kr, hs, hx⟩ hs9 hi x)
   ·exact ok fine_scard (do9_calls kr hA hll (by omega) hf fun h1 ab av' hx x => scard9 ⟨kr, hs, hx⟩  x)
   ·exact ok fine_smem (do9_calls kr hA hll (by omega) hf fun h1 ab av' hx x => smem9 ⟨kr, hs, hx⟩ hs9 x)
   ·exact ok fine_sinter (do9_calls kr hA hll (by omega) hf fun h1 ab av' hx x => sinter9 ⟨kr, hs, hx⟩ hs9 hi (by omega) x)
   ·exact ok (fine_zadd few hs9 hlA) (do9_calls kr hA hll (by omega) hf fun h1 ab av' hx x => zadd9 ⟨kr, hs, hx⟩ hs9 hi hla ht hzA x)
   ·exact ok (fine_zrem few hs9 hlA hz3) (do9_calls kr hA hll (by omega) hf fun h1 ab av' hx x => zrem9 ⟨kr, hs, hx⟩ hs9 hi ht x)
   ·exact ok fine_zscore (do9_calls kr hA hll (by omega) hf fun h1 ab av' hx x => zscore9 ⟨kr, hs, hx⟩ hs9 hi hla ht x)
   ·exact ok (fine_zincr few hs9) (do9_calls kr hA hll (by omega) hf fun h1 ab av' hx x => zincr9 ⟨kr, hs, hx⟩ hs9 hi hla ht hzA x)
   ·exact ok fine_zcard (do9_calls kr hA hll (by omega) hf fun h1 ab av' hx x => zcard9 ⟨kr, hs, hx⟩  x)
   ·exact ok fine_zrank (do9_calls kr hA hll (by omega) hf fun h1 ab av' hx x => zrank9 ⟨kr, hs, hx⟩ hs9 hi ht x)
   ·exact ok fine_zrange (do9_calls kr hA hll (by omega) hf fun h1 ab av' hx x => zrange9 ⟨kr, hs, hx⟩ hs9 hi hla ht hzA x)
   ·exact ok fine_zby (do9_calls kr hA hll (by omega) hf fun h1 ab av' hx x => zby9 ⟨kr, hs, hx⟩ hs9 hi hla ht hzA x)
theorem s9_of {l k : List RX} (nv : NVast l) (hk : ofX [] l = some k) (hr : ∀ x ∈ l, ∀ r ∈ x.thing.ranks, In64 r.score) : S9 (k.map RX.pr) := by
 obtain ⟨_, h2, _⟩ := ofX_ok List.Pairwise.nil hk
 intro p hp
 obtain ⟨x, hx, rfl⟩ := List.mem_map.1 hp
 have hm : x ∈ l := by simpa using (h2 x).1 hx
 have s := nv.small x hm
 have a := s.p; have b := s.l; have c := s.r
 exact ⟨by show x.thing.pairs.length ≤ _; omega, by show x.thing.list.length ≤ _; omega, by show x.thing.ranks.length ≤ _; omega, fun p hp => (s.ps p hp).2, hr x hm, s.rs, s.ls⟩
theorem known9_ret {h : Heap} : CallsH Tryz.prog 13 [] h (Ret fun r h' => r = .bool true ∧ Chg [] h h') := by
 refine f13_calls (by simp) ?_
 refine call_ret New_calls ?_
 rintro _ h1 ⟨kb, sb, mb, rfl, ks, hm, _, _, _, c1⟩
 have kr : KR h1 kb sb mb 0 [] := ⟨ks, hm, by simp, by simp, by simp, by simp, by simp, by simp⟩
 have hs : Sorted [] [] := ⟨List.Pairwise.nil, by simp⟩
 intro b2 h2 g2
 have sa : SL encS h2 (.slice (some ⟨b2, 0, none⟩) 3 3) [⟨#[115, 97, 100, 100]⟩, ⟨#[97]⟩, ⟨#[109]⟩] := by
  refine ⟨_, 3, rfl, Nat.le_refl _, ?_⟩
  exact cells_blk g2.blk
 have s9 : S9 [] := fun p hp => (nomatch hp)
 have hin : InS [] := fun p hp => (nomatch hp)
 refine call_ret (do9_calls (now := 0) (kr.ext g2.chg) sa (by simp) (by decide) (by kernel_rfl) fun h3 ab av' hx x => sadd9 ⟨kr.ext g2.chg, hs, hx⟩ s9 hin (fun s hs => ?_) x) ?_
 ·simp at hs
  rcases hs with rfl | rfl <;> decide
 rintro r h3 ⟨c3, hr⟩
 have e : cSadd [] 0 [⟨#[97]⟩, ⟨#[109]⟩] = .ok (rep 3 1 noText, [addE ⟨#[97]⟩ ⟨#[109]⟩]) := by kernel_rfl
 rw [e] at hr
 obtain ⟨vq, lv, rfl, ⟨ra, rn, rc, rfl, sl, fr⟩, hsl, hfr⟩ := hr
 obtain ⟨la, lc, rfl, _⟩ := hsl.form
 obtain ⟨lb, lo, rfl⟩ := hsl.addr (by simp)
 intro b9 h4 g4
 have w := (St.start h3).new g4
 refine w.st1 0 rfl rfl rfl rfl fun h5 w => ?_
 have hcs := (hsl.ext w.chg).cells encD_len (i := 0) (x := addE ⟨#[97]⟩ ⟨#[109]⟩) rfl
 refine w.ld1 0 rfl rfl ?_
 refine Ai rfl (Ai (fun _ => ?_) (fun hne => absurd rfl hne))
 refine w.ld1 0 rfl rfl ?_
 refine Ai rfl (Ai (fun _ => ?_) (fun hne => absurd rfl hne))
 refine Ai rfl (Ai (fun _ => ?_) (fun hne => absurd rfl hne))
 refine Ai (by decide) (Ai (by simp) (Ei _ (Ai (by simpa using hcs 0 _ rfl) ?_)))
 refine Ai rfl (Ai (fun _ => ?_) (fun hne => absurd rfl hne))
 refine Ai (by decide) (Ai (by simp) (Ei _ (Ai (by simpa using hcs 2 _ rfl) ?_)))
 refine Ai (fun _ => ?_) (fun hne => absurd rfl hne)
 exact ⟨rfl, ((c1.nil g2.chg).nil c3).nil w.chg⟩
theorem kn9 {h h2 : Heap} {K : Value → Heap → Prop} {Qp : List PanicEntry → Heap → Prop} (c2 : Chg [] h h2) (hK : ∀ h', Chg [] h h' → K (.bool true) h') : CallsH Tryz.prog 13 [] h2 (after K Qp) :=
 call_ret known9_ret fun v h' hv => by rw [hv.1]; exact hK h' (c2.nil hv.2)
theorem large9_calls {h : Heap} {vs : List Value} {t : Thing} (x : TH h vs t) (f : Fits t) (s : Sized t) :
  CallsH Tryz.prog 30 [.agg ⟨vs⟩] h (Ret fun r h' => (∃ b, r = .bool b ∧ (b = false → Small t)) ∧ Chg [] h h') := by
 have fp := f.p; have fl := f.l; have fr := f.r
 refine f30_calls (by simp) ?_
 intro b1 h1 g1
 have B1 : Blk h1 b1 vs := g1.blk
 have hc := g1.chg
 obtain ⟨pv, lv, rv, rfl, hp, hl, hr⟩ := x.ext hc
 obtain ⟨pa, pc, rfl, _⟩ := hp.form
 obtain ⟨la, lc, rfl, _⟩ := hl.form
 obtain ⟨ra, rc, rfl, _⟩ := hr.form
 have yes : Ret (fun r h' => (∃ b, r = .bool b ∧ (b = false → Small t)) ∧ Chg [] h h') (.returned (retV [Value.bool true])) h1 := ⟨⟨true, rfl, fun h => by cases h⟩, hc⟩
 refine Ei _ (Ai (cell_blk B1 rfl) ?_)
 refine Ei _ (Ai (cell_blk B1 rfl) ?_)
 refine Ai rfl (Ai (fun _ => yes) (fun n1 => ?_))
 refine Ei _ (Ai (cell_blk B1 rfl) ?_)
 refine Ai rfl (Ai (fun _ => yes) (fun n2 => ?_))
 refine Ei _ (Ai (cell_blk B1 rfl) ?_)
 refine Ai rfl (Ai (fun _ => yes) (fun n3 => ?_))
 refine Ai rfl (Ai (fun _ => yes) (fun n4 => ?_))
 have ht := s.text
 -- the pairs
 refine loop_intro (fun i : Nat × Int => [(1, .pointer (some ⟨b1, 0, none⟩)), (3, .int .i64 i.2), (4, .int .i64 i.1)]) (fun i h' => i.1 ≤ t.pairs.length ∧ h' = h1 ∧ 0 ≤ i.2 ∧ i.2 ≤ 2000 ∧ ∀ x ∈ t.pairs.take i.1, x.name.size ≤ 2000 ∧ x.text.size ≤ 2000) (fun i => t.pairs.length - i.1) (0, t.text.size)
  ⟨rfl, rfl, rfl, trivial⟩ ⟨Nat.zero_le _, rfl, by simp only; omega, by simp only; omega, by simp⟩ ?_
 rintro ⟨k, n⟩ h3 ⟨hk, h32, hn0, hn1, hps⟩
 have h32 := h32.symm
 subst h32
 simp only at hk hn0 hn1 hps
 refine Ei _ (Ai (cell_blk B1 rfl) ?_)
 refine Ai rfl (Ai (fun hlt => ?_) (fun hlt => ?_))
 ·have hkk : k < t.pairs.length := by omega
  obtain ⟨b3, o, rfl⟩ := hp.addr (by omega)
  have hcs := hp.cells encP_len (i := k) (x := t.pairs[k]) (by simp [hkk])
  obtain ⟨z1, z2⟩ := s.ps t.pairs[k] (List.getElem_mem hkk)
  refine Ei _ (Ai (cell_blk B1 rfl) ?_)
  refine Ai (by omega) (Ai (by omega) (Ei _ (Ai (hcs 0 _ rfl) ?_)))
  refine Ai rfl (fun y hy => ?_)
  have hy := add_in hy (by omega) (by omega)
  refine Ei _ (Ai (cell_blk B1 rfl) ?_)
  refine Ai (by omega) (Ai (by omega) (Ei _ (Ai (hcs 1 _ rfl) ?_)))
  refine Ai rfl (fun w hw => ?_)
  have hw := add_in hw (by omega) (by omega)
  refine Ai rfl (Ai (fun _ => yes) (fun n5 => ?_))
  refine Ai rfl (fun z hz => ?_)
  have hz := add_in hz (by omega) (by omega)
  subst hz
  refine Ai rfl (Ei (k + 1, w) (Ai ?_ (Ai ?_ ?_)))
  ·exact ⟨rfl, rfl, rfl, trivial⟩
  ·refine ⟨by simp only; omega, rfl, by simp only; omega, by simp only; omega, fun q hq => ?_⟩
   simp only at hq
   rw [take_snoc t.pairs k hkk] at hq
   rcases List.mem_append.1 hq with hq | hq
   ·exact hps q hq
   ·have : q = t.pairs[k] := by simpa using hq
    rw [this]; omega
  ·simp only; omega
 have hkl : k = t.pairs.length := by omega
 rw [hkl, List.take_length] at hps
 clear hlt hkl hk
 -- the list
 refine loop_intro (fun i : Nat × Int => [(1, .pointer (some ⟨b1, 0, none⟩)), (3, .int .i64 i.2), (5, .int .i64 i.1)]) (fun i h' => i.1 ≤ t.list.length ∧ h' = h1 ∧ 0 ≤ i.2 ∧ i.2 ≤ 2000 ∧ ∀ x ∈ t.list.take i.1, x.size ≤ 2000) (fun i => t.list.length - i.1) (0, n)
  ⟨rfl, rfl, rfl, trivial⟩ ⟨Nat.zero_le _, rfl, by simp only; omega, by simp only; omega, by simp⟩ ?_
 clear hn0 hn1
 rintro ⟨k, n⟩ h3 ⟨hk, h32, hn0, hn1, hls⟩
 have h32 := h32.symm
 subst h32
 simp only at hk hn0 hn1 hls
 refine Ei _ (Ai (cell_blk B1 rfl) ?_)
 refine Ai rfl (Ai (fun hlt => ?_) (fun hlt => ?_))
 ·have hkk : k < t.list.length := by omega
  obtain ⟨b3, o, rfl⟩ := hl.addr (by omega)
  have hcs := hl.cells encS_len (i := k) (x := t.list[k]) (by simp [hkk])
  have z1 := s.ls t.list[k] (List.getElem_mem hkk)
  refine Ei _ (Ai (cell_blk B1 rfl) ?_)
  refine Ai (by omega) (Ai (by omega) (Ei _ (Ai (hcs 0 _ rfl) ?_)))
  refine Ai rfl (fun w hw => ?_)
  have hw := add_in hw (by omega) (by omega)
  refine Ai rfl (Ai (fun _ => yes) (fun n5 => ?_))
  refine Ai rfl (fun z hz => ?_)
  have hz := add_in hz (by omega) (by omega)
  subst hz
  refine Ai rfl (Ei (k + 1, w) (Ai ?_ (Ai ?_ ?_)))
  ·exact ⟨rfl, rfl, rfl, trivial⟩
  ·refine ⟨by simp only; omega, rfl, by simp only; omega, by simp only; omega, fun q hq => ?_⟩
   simp only at hq
   rw [take_snoc t.list k hkk] at hq
   rcases List.mem_append.1 hq with hq | hq
   ·exact hls q hq
   ·have : q = t.list[k] := by simpa using hq
    rw [this]; omega
  ·simp only; omega
 have hkl : k = t.list.length := by omega
 rw [hkl, List.take_length] at hls
 clear hlt hkl hk
 -- the ranks
 refine loop_intro (fun i : Nat × Int => [(1, .pointer (some ⟨b1, 0, none⟩)), (3, .int .i64 i.2), (6, .int .i64 i.1)]) (fun i h' => i.1 ≤ t.ranks.length ∧ h' = h1 ∧ 0 ≤ i.2 ∧ i.2 ≤ 2000 ∧ ∀ x ∈ t.ranks.take i.1, x.name.size ≤ 2000) (fun i => t.ranks.length - i.1) (0, n)
  ⟨rfl, rfl, rfl, trivial⟩ ⟨Nat.zero_le _, rfl, by simp only; omega, by simp only; omega, by simp⟩ ?_
 clear hn0 hn1
 rintro ⟨k, n⟩ h3 ⟨hk, h32, hn0, hn1, hrs⟩
 have h32 := h32.symm
 subst h32
 simp only at hk hn0 hn1 hrs
 refine Ei _ (Ai (cell_blk B1 rfl) ?_)
 refine Ai rfl (Ai (fun hlt => ?_) (fun hlt => ?_))
 ·have hkk : k < t.ranks.length := by omega
  obtain ⟨b3, o, rfl⟩ := hr.addr (by omega)
  have hcs := hr.cells encR_len (i := k) (x := t.ranks[k]) (by simp [hkk])
  have z1 := s.rs t.ranks[k] (List.getElem_mem hkk)
  refine Ei _ (Ai (cell_blk B1 rfl) ?_)
  refine Ai (by omega) (Ai (by omega) (Ei _ (Ai (hcs 0 _ rfl) ?_)))
  refine Ai rfl (fun w hw => ?_)
  have hw := add_in hw (by omega) (by omega)
  refine Ai rfl (Ai (fun _ => yes) (fun n5 => ?_))
  refine Ai rfl (fun z hz => ?_)
  have hz := add_in hz (by omega) (by omega)
  subst hz
  refine Ai rfl (Ei (k + 1, w) (Ai ?_ (Ai ?_ ?_)))
  ·exact ⟨rfl, rfl, rfl, trivial⟩
  ·refine ⟨by simp only; omega, rfl, by simp only; omega, by simp only; omega, fun q hq => ?_⟩
   simp only at hq
   rw [take_snoc t.ranks k hkk] at hq
   rcases List.mem_append.1 hq with hq | hq
   ·exact hrs q hq
   ·have : q = t.ranks[k] := by simpa using hq
    rw [this]; omega
  ·simp only; omega
 have hkl : k = t.ranks.length := by omega
 rw [hkl, List.take_length] at hrs
 exact ⟨⟨false, rfl, fun _ => ⟨by omega, by omega, by omega, by omega, hps, hls, hrs⟩⟩, hc⟩
theorem vast9_calls {h : Heap} {v u : Value} {l : List RX} {d : List ByteArray} (hv : SL encX h v l) (hu : SL encS h u d) (g : GX h l) (f : XFit l) (fd : SFit d) :
  CallsH Tryz.prog 12 [v, u] h (Ret fun r h' => (∃ b, r = .bool b ∧ (b = false → NVast l ∧ SSmall d)) ∧ Chg [] h h') := by
 have fl := f.len
 have fdl := fd.len
 obtain ⟨a, c, rfl, hlc⟩ := hv.form
 obtain ⟨a', c', rfl, hlc'⟩ := hu.form
 have yes : ∀ h', Chg [] h h' → Ret (fun r h' => (∃ b, r = .bool b ∧ (b = false → NVast l ∧ SSmall d)) ∧ Chg [] h h') (.returned (retV [Value.bool true])) h' := fun h' hc => ⟨⟨true, rfl, fun h => by cases h⟩, hc⟩
 refine f12_calls (by simp) ?_
 refine Ai rfl (Ai (fun _ => yes h (Chg.refl h)) (fun n1 => ?_))
 refine Ai rfl (Ai (fun _ => yes h (Chg.refl h)) (fun n2 => ?_))
 refine loop_intro (fun k : Nat => [(0, .slice a l.length c), (1, .slice a' d.length c'), (5, .int .i64 k)]) (fun k h' => k ≤ l.length ∧ Chg [] h h' ∧ ∀ x ∈ l.take k, x.key.size ≤ 300 ∧ Small x.thing) (fun k => l.length - k) 0
  ⟨rfl, rfl, rfl, trivial⟩ ⟨Nat.zero_le _, Chg.refl h, by simp⟩ ?_
 rintro k h1 ⟨hk, hc1, hall⟩
 have hv1 := hv.ext hc1
 refine Ai rfl (Ai (fun ht => ?_) (fun ht => ?_))
 ·have hlt : k < l.length := by omega
  obtain ⟨b, o, rfl⟩ := hv1.addr (by omega)
  have hcs := hv1.cells encX_len (i := k) (x := l[k]) (by simp [hlt])
  have hmem : l[k] ∈ l := List.getElem_mem hlt
  have hkz := f.keys _ hmem
  refine Ai (by omega) (Ai (by omega) (Ei _ (Ai (hcs 0 _ rfl) ?_)))
  refine Ai rfl (Ai (fun _ => yes h1 hc1) (fun n3 => ?_))
  refine Ai (by omega) (Ai (by omega) (Ei l[k].vs (Ai l[k].len (Ai (cells_vs hcs) ?_))))
  refine call_ret (large9_calls ((g.ext hc1) _ hmem) (f.fits _ hmem) (f.sized _ hmem)) ?_
  rintro _ h2 ⟨⟨b2, rfl, hsm⟩, hc2⟩
  cases b2 with
  |true => exact yes h2 (hc1.nil hc2)
  |false =>
   refine Ai rfl (fun z hz => ?_)
   have hz := add_in hz (by omega) (by omega)
   subst hz
   refine Ai rfl (Ei (k + 1) (Ai ?_ (Ai ?_ ?_)))
   ·exact ⟨rfl, rfl, rfl, trivial⟩
   ·refine ⟨by omega, hc1.nil hc2, fun x hx => ?_⟩
    rw [take_snoc l k hlt, List.mem_append, List.mem_singleton] at hx
    rcases hx with hx | rfl
    ·exact hall x hx
    ·exact ⟨by omega, hsm rfl⟩
   ·omega
 have hkl : k = l.length := by omega
 rw [hkl, List.take_length] at hall
 clear hkl ht hk hv1
 have nv : NVast l := ⟨by omega, fun x hx => (hall x hx).1, fun x hx => (hall x hx).2⟩
 refine loop_intro (fun k : Nat => [(1, .slice a' d.length c'), (6, .int .i64 k)]) (fun k h' => k ≤ d.length ∧ Chg [] h h' ∧ ∀ e ∈ d.take k, e.size ≤ 300) (fun k => d.length - k) 0
  ⟨rfl, rfl, trivial⟩ ⟨Nat.zero_le _, hc1, by simp⟩ ?_
 clear k hc1
 rintro k h1 ⟨hk, hc1, hall⟩
 have hu1 := hu.ext hc1
 refine Ai rfl (Ai (fun ht => ?_) (fun ht => ?_))
 ·have hlt : k < d.length := by omega
  obtain ⟨b, o, rfl⟩ := hu1.addr (by omega)
  have hcs := hu1.cells encS_len (i := k) (x := d[k]) (by simp [hlt])
  have z1 := fd.each _ (List.getElem_mem hlt)
  refine Ai (by omega) (Ai (by omega) (Ei _ (Ai (hcs 0 _ rfl) ?_)))
  refine Ai rfl (Ai (fun _ => yes h1 hc1) (fun n3 => ?_))
  refine Ai rfl (fun z hz => ?_)
  have hz := add_in hz (by omega) (by omega)
  subst hz
  refine Ai rfl (Ei (k + 1) (Ai ?_ (Ai ?_ ?_)))
  ·exact ⟨rfl, rfl, trivial⟩
  ·refine ⟨by omega, hc1, fun x hx => ?_⟩
   rw [take_snoc d k hlt, List.mem_append, List.mem_singleton] at hx
   rcases hx with hx | rfl
   ·exact hall x hx
   ·omega
  ·omega
 have hkl : k = d.length := by omega
 rw [hkl, List.take_length] at hall
 exact ⟨⟨false, rfl, fun _ => ⟨nv, ⟨by omega, hall⟩⟩⟩, hc1⟩
theorem CollsEffects_calls {h : Heap} {v u : Value} {l : List RX} {A : List ByteArray} {now : Int} (hv : SL encX h v l) (hu : SL encS h u A) (g : GX h l) (f : XFit l) (fd : SFit A) (hun : ∀ x ∈ l, In64 x.thing.unt) (hri : ∀ x ∈ l, ∀ r ∈ x.thing.ranks, In64 r.score) (hla : LaidN h) (ht : K5.TabH h) :
  CallsH Tryz.prog 9 [v, .int .i64 now, u] h (Ret fun r h' => r = .bool true ∧ Chg [] h h') := by
 refine f9_calls (by simp) ?_
 refine call_ret (vast9_calls hv hu g f fd) ?_
 rintro _ h1 ⟨⟨b, rfl, hb⟩, c1⟩
 cases b with
 |true => exact kn9 c1 fun h2 c2 => Ai rfl c2
 |false =>
  obtain ⟨nv, sm⟩ := hb rfl
  refine call_ret (KOf_calls (hv.ext c1) (g.ext c1) nv) ?_
  rintro r2 h2 ⟨c2, ho⟩
  have c02 := c1.nil c2
  cases hk2 : ofX [] l with
  |none =>
   rw [hk2] at ho
   subst ho
   refine Ai rfl (Ai (fun _ => ?_) (fun hne => absurd (by decide) hne))
   exact kn9 c02 fun h3 c3 => Ai rfl c3
  |some k =>
   rw [hk2] at ho
   obtain ⟨kb, sb, mb, c, m, rfl, kr, hpr, hmb⟩ := ho
   have hW := sorted_of hpr hk2
   have s8 := s8_of nv hk2 hun
   have hz1 := c1.size
   have hlm : mb < h2.size := get_lt kr.map
   refine Ai rfl (Ai (fun hne => absurd rfl hne) (fun _ => ?_))
   refine call_ret (do9_any kr hW s8 (s9_of nv hk2 hri) (hla.ext c02) (tab9 ht c02) (hu.ext c02) sm.len sm.each) ?_
   rintro r3 h3 (⟨rfl, c3⟩ | ⟨res, hfi, c3, hr⟩)
   ·intro b9 h4 g4
    have w := (St.start h3).new g4
    refine w.st1 0 rfl rfl rfl rfl fun h5 w => ?_
    refine Ai rfl (Ai (fun _ => ?_) (fun hne => absurd rfl hne))
    exact kn9 ((c02.nil c3).nil w.chg) fun h6 c6 => Ai rfl c6
   ·cases res with
    |error why =>
     have hr : r3 = .tuple ⟨[repV 2 0 why, .slice none 0 0, .bool true]⟩ := hr
     subst hr
     intro b9 h4 g4
     have w := (St.start h3).new g4
     refine w.st1 0 rfl rfl rfl rfl fun h5 w => ?_
     refine w.ld1 0 rfl rfl ?_
     refine Ai rfl (Ai (fun _ => ?_) (fun hne => absurd rfl hne))
     refine Ai rfl (Ai (fun _ => ?_) (fun hne => absurd rfl hne))
     exact kn9 ((c02.nil c3).nil w.chg) fun h6 c6 => Ai rfl c6
    |ok qE =>
     obtain ⟨q, E⟩ := qE
     obtain ⟨vq, lv, rfl, ⟨ra, rn, rc, rfl, sl, fr⟩, hsl, hfr⟩ := hr
     obtain ⟨hq, hE, S', hS⟩ := hfi q E rfl
     have hap := all_apply hS
     obtain ⟨la, lc, rfl, _⟩ := hsl.form
     intro b9 h4 g4
     have w := (St.start h3).new g4
     refine w.st1 0 rfl rfl rfl rfl fun h5 w => ?_
     refine w.ld1 0 rfl rfl ?_
     refine Ai rfl (Ai (fun he => absurd he hq) (fun _ => ?_))
     have c25 := c3.nil w.chg
     refine call_ret (ApplyG_calls (kr.ext c25) hW s8.few.ins (fun h' hc => (hsl.ext w.chg).chg hc fun b hb => by have := hfr b hb; simp; omega) (by omega)) ?_
     rintro _ h6 ⟨rfl, c', m', kr', hs', in', c6⟩
     rw [hap]
     refine Ai rfl (Ai (fun _ => ?_) (fun hne => absurd rfl hne))
     refine Ai rfl (Ai (fun _ => ?_) (fun hne => absurd rfl hne))
     exact kn9 ((c02.nil c25).fresh c6 (by simp; omega)) fun h7 c7 => Ai rfl c7
end Go.Proofs.YtjnijlnmbjjgpaaGreatDoor
namespace Go.Proofs.YtjnijlnmbjjgpaaGreatDoor
open Go Go.Sx Go.ChangeShapes Go.WideShapes Go.ChangeAt Go.RowKit
theorem own : ownKnob Tryz.prog.godebug = none := by kernel_rfl
theorem laidOut : laidOutB Tryz.prog = true := by kernel_rfl
def tab32 : List Int := [0, 1, 28, 2, 29, 14, 24, 3, 30, 22, 20, 15, 25, 17, 4, 8, 31, 27, 13, 23, 21, 19, 16, 7, 26, 12, 18, 6, 11, 5, 10, 9]
def tab64 : List Int := [0, 1, 56, 2, 57, 49, 28, 3, 61, 58, 42, 50, 38, 29, 17, 4, 62, 47, 59, 36, 45, 43, 51, 22, 53, 39, 33, 30, 24, 18, 12, 5, 63, 55, 48, 27, 60, 41, 37, 16, 46, 35, 44, 21, 52, 32, 23, 11, 54, 26, 40, 15, 34, 20, 31, 10, 25, 14, 19, 9, 13, 8, 7, 6]
def pow10 : List Int := [1, 10, 100, 1000, 10000, 100000, 1000000, 10000000, 100000000, 1000000000, 10000000000, 100000000000, 1000000000000, 10000000000000, 100000000000000, 1000000000000000, 10000000000000000, 100000000000000000, 1000000000000000000, 10000000000000000000]
def wordRange : ByteArray := ⟨#[118, 97, 108, 117, 101, 32, 111, 117, 116, 32, 111, 102, 32, 114, 97, 110, 103, 101]⟩
def wordSyntax : ByteArray := ⟨#[105, 110, 118, 97, 108, 105, 100, 32, 115, 121, 110, 116, 97, 120]⟩
def laid5 : List (String × DataW Unit) := [("math/bits.deBruijn32tab", Rows.laid_math_bits_deBruijn32tab), ("math/bits.deBruijn64tab", Rows.laid_math_bits_deBruijn64tab), ("internal/strconv.uint64pow10", Rows.laid_internal_strconv_uint64pow10), ("strconv.ErrRange", Rows.laid_strconv_ErrRange), ("strconv.ErrSyntax", Rows.laid_strconv_ErrSyntax)]
def putTab (vs : Array Value) : Obj → Obj
 |.cells _ t frozen => .cells vs t frozen
 |o => o
noncomputable def bare (os : Os) : World := World.holding Tryz.prog os ⟨#[], #[], []⟩
noncomputable def laidWorld (os : Os) : World :=
 { bare os with heap := ((((((bare os).heap.modify 2 (putTab (tab32.map fun z => Value.int .u8 z).toArray)).modify 3 (putTab (tab64.map fun z => Value.int .u8 z).toArray)).modify 0 (putTab (pow10.map fun z => Value.int .u64 z).toArray)).modify 5
  (putTab #[.iface 348 (.pointer (some ⟨(bare os).heap.size, 0, none⟩))])).modify 4 (putTab #[.iface 348 (.pointer (some ⟨(bare os).heap.size + 1, 0, none⟩))])) ++
  #[.cells #[.string wordRange] 350 (0, 0), .cells #[.string wordSyntax] 350 (0, 0)] }
theorem laid_met (os : Os) (args : Array Value) : laidMet Tryz.prog laid5 ((laidWorld os).forCall (fun _ _ => 0) ⟨#[], args, []⟩).memory :=
 laidMet_of_run' 8 (by kernel_rfl) (by kernel_rfl)
theorem int_arg {P : Program} {W : World} {b0 : Nat} {r : Reach} {t : TypeId} {v : Value} (ht : P.underlying t = some (.int .i64)) (hval : Value.okWide P W r b0 t v) :
  ∃ n, v = .int .i64 n := by
 simp only [Value.okWide, Cell.okWide, Cell.ok, ht] at hval
 split at hval <;> simp_all
theorem len2 {α : Type} {l : List α} (h : l.length = 2) : ∃ a b, l = [a, b] := by
 match l, h with
 |[a, b], _ => exact ⟨a, b, rfl⟩
theorem len7 {α : Type} {l : List α} (h : l.length = 7) : ∃ a0 a1 a2 a3 a4 a5 a6, l = [a0, a1, a2, a3, a4, a5, a6] := by
 match l, h with
 |[a0, a1, a2, a3, a4, a5, a6], _ => exact ⟨a0, a1, a2, a3, a4, a5, a6, rfl⟩
theorem len8 {α : Type} {l : List α} (h : l.length = 8) : ∃ a0 a1 a2 a3 a4 a5 a6 a7, l = [a0, a1, a2, a3, a4, a5, a6, a7] := by
 match l, h with
 |[a0, a1, a2, a3, a4, a5, a6, a7], _ => exact ⟨a0, a1, a2, a3, a4, a5, a6, a7, rfl⟩
section
variable {H : Type} {enc : TypeId × Value → H} {W : World} {base n : Nat} {sp : Nat → Bool} {held : Bool} {cs : List Value} {x : DataW H × List MemPlace}
theorem open_rank (h : DataW.trod enc Tryz.prog W base sp held n 110 cs = some x) (hw : Wts Tryz.prog 110 x.1) : ∃ a : Rank, cs = encR a ∧ a.name.size < 1000000000000000000 ∧ (-9223372036854775808 ≤ a.score ∧ a.score ≤ 9223372036854775807) := by
 obtain ⟨xs, m, rfl, hx, hl, hls, hi⟩ := DataW.trod_struct Tryz.underlying110 h
 have c9 : Tryz.prog.cellsOf 9 = 1 := by kernel_rfl
 have c2 : Tryz.prog.cellsOf 2 = 1 := by kernel_rfl
 have cc : Tryz.prog.cellsOf 110 = 2 := by kernel_rfl
 rw [cc] at hl
 obtain ⟨u, v, rfl⟩ := len2 hl
 obtain ⟨y, z, rfl⟩ := len2 (l := xs) hls
 have h0 := fld hi 0 9 0 1 rfl rfl rfl c9 rfl rfl
 have h1 := fld hi 1 2 1 1 rfl rfl rfl c2 rfl rfl
 have hw0 : Wts Tryz.prog 9 y.1 := by
  intro k hk
  refine hw k ?_
  rw [hx]
  simp only [DataW.weights, Tryz.underlying110, List.map_cons, List.map_nil, DataW.weightsEach, List.mem_append]
  exact .inl hk
 obtain ⟨nm, e0, hs⟩ := str_of_trod Tryz.underlying9 h0 hw0
 obtain ⟨k, e1, _, wf1⟩ := DataW.trod_int Tryz.underlying2 h1
 have un1 : -9223372036854775808 ≤ k ∧ k ≤ 9223372036854775807 := by
  unfold Lit.wf at wf1
  simp only [Bool.and_eq_true, decide_eq_true_eq] at wf1
  exact wf1
 obtain ⟨rfl⟩ := e0
 obtain ⟨rfl⟩ := e1
 have := reachBytes_lt
 exact ⟨⟨nm, k⟩, rfl, by show nm.size < _; omega, un1⟩
theorem open_pair (h : DataW.trod enc Tryz.prog W base sp held n 108 cs = some x) (hw : Wts Tryz.prog 108 x.1) : ∃ a : Pair, cs = encP a ∧ a.name.size < 1000000000000000000 ∧ a.text.size < 1000000000000000000 := by
 obtain ⟨xs, m, rfl, hx, hl, hls, hi⟩ := DataW.trod_struct Tryz.underlying108 h
 have c9 : Tryz.prog.cellsOf 9 = 1 := by kernel_rfl
 have cc : Tryz.prog.cellsOf 108 = 2 := by kernel_rfl
 rw [cc] at hl
 obtain ⟨u, v, rfl⟩ := len2 hl
 obtain ⟨y, z, rfl⟩ := len2 (l := xs) hls
 have h0 := fld hi 0 9 0 1 rfl rfl rfl c9 rfl rfl
 have h1 := fld hi 1 9 1 1 rfl rfl rfl c9 rfl rfl
 have hw0 : Wts Tryz.prog 9 y.1 := by
  intro k hk
  refine hw k ?_
  rw [hx]
  simp only [DataW.weights, Tryz.underlying108, List.map_cons, List.map_nil, DataW.weightsEach, List.mem_append]
  exact .inl hk
 have hw1 : Wts Tryz.prog 9 z.1 := by
  intro k hk
  refine hw k ?_
  rw [hx]
  simp only [DataW.weights, Tryz.underlying108, List.map_cons, List.map_nil, DataW.weightsEach, List.mem_append]
  exact .inr (.inl hk)
 obtain ⟨nm, e0, hs⟩ := str_of_trod Tryz.underlying9 h0 hw0
 obtain ⟨tx, e1, hs1⟩ := str_of_trod Tryz.underlying9 h1 hw1
 obtain ⟨rfl⟩ := e0
 obtain ⟨rfl⟩ := e1
 have := reachBytes_lt
 exact ⟨⟨nm, tx⟩, rfl, by show nm.size < _; omega, by show tx.size < _; omega⟩
theorem open_s (h : DataW.trod enc Tryz.prog W base sp held n 9 cs = some x) (hw : Wts Tryz.prog 9 x.1) : ∃ a : ByteArray, cs = encS a ∧ a.size < 1000000000000000000 := by
 obtain ⟨nm, e0, hs⟩ := str_of_trod Tryz.underlying9 h hw
 have := reachBytes_lt
 exact ⟨nm, e0, by omega⟩
set_option maxRecDepth 100000 in
theorem open_thing (h : DataW.trod enc Tryz.prog W base sp held n 27 cs = some x) (hw : Wts Tryz.prog 27 x.1) :
  ∃ t : Thing, TH W.heap cs t ∧ Fits t ∧ Sized t ∧ cs.length = 7 ∧ (-9223372036854775808 ≤ t.unt ∧ t.unt ≤ 9223372036854775807) ∧ ∀ r ∈ t.ranks, -9223372036854775808 ≤ r.score ∧ r.score ≤ 9223372036854775807 := by
 obtain ⟨xs, m, rfl, hx, hl, hls, hi⟩ := DataW.trod_struct Tryz.underlying27 h
 have hd : x.1 = .agg (xs.map (·.1)) := congrArg Prod.fst hx
 have c9 : Tryz.prog.cellsOf 9 = 1 := by kernel_rfl
 have c2 : Tryz.prog.cellsOf 2 = 1 := by kernel_rfl
 have c4 : Tryz.prog.cellsOf 4 = 1 := by kernel_rfl
 have c22 : Tryz.prog.cellsOf 22 = 1 := by kernel_rfl
 have c23 : Tryz.prog.cellsOf 23 = 1 := by kernel_rfl
 have c24 : Tryz.prog.cellsOf 24 = 1 := by kernel_rfl
 have c25 : Tryz.prog.cellsOf 25 = 1 := by kernel_rfl
 have c27 : Tryz.prog.cellsOf 27 = 7 := by kernel_rfl
 rw [c27] at hl
 obtain ⟨a0, a1, a2, a3, a4, a5, a6, rfl⟩ := len7 hl
 obtain ⟨y0, y1, y2, y3, y4, y5, y6, rfl⟩ := len7 (l := xs) hls
 have h0 := fld hi 0 22 0 1 rfl rfl rfl c22 rfl rfl
 have h1 := fld hi 1 9 1 1 rfl rfl rfl c9 rfl rfl
 have h2 := fld hi 2 23 2 1 rfl rfl rfl c23 rfl rfl
 have h3 := fld hi 3 24 3 1 rfl rfl rfl c24 rfl rfl
 have h4 := fld hi 4 25 4 1 rfl rfl rfl c25 rfl rfl
 have h5 := fld hi 5 4 5 1 rfl rfl rfl c4 rfl rfl
 have h6 := fld hi 6 2 6 1 rfl rfl rfl c2 rfl rfl
 have hwk : ∀ (i t : Nat) (y : DataW H × List MemPlace), [22, 9, 23, 24, 25, 4, 2][i]? = some t → [y0, y1, y2, y3, y4, y5, y6][i]? = some y → Wts Tryz.prog t y.1 := by
  intro i t y ht hy k hk
  refine hw k ?_
  rw [hd]
  simp only [DataW.weights, Tryz.underlying27]
  refine DataW.weights_mem_each (j := i) (t := t) (d := y.1) ?_ ?_ k hk
  ·exact ht
  ·rw [List.getElem?_map, hy]; rfl
 obtain ⟨kd, e0, _, _⟩ := DataW.trod_int Tryz.underlying22 h0
 obtain ⟨tx, e1, hs1⟩ := str_of_trod Tryz.underlying9 h1 (hwk 1 9 y1 rfl rfl)
 obtain ⟨lp, sp, gp, np⟩ := open_cell (k := 2) (en := encP) Tryz.underlying23 (by kernel_rfl) (by decide) encP_len (fun n cs x h hw => open_pair h hw) h2 (hwk 2 23 y2 rfl rfl)
 obtain ⟨ll, sl, gl, nl⟩ := open_cell (k := 1) (en := encS) Tryz.underlying24 (by kernel_rfl) (by decide) encS_len (fun n cs x h hw => open_s h hw) h3 (hwk 3 24 y3 rfl rfl)
 obtain ⟨lr, sr, gr, nr⟩ := open_cell (k := 2) (en := encR) Tryz.underlying25 (by kernel_rfl) (by decide) encR_len (fun n cs x h hw => open_rank h hw) h4 (hwk 4 25 y4 rfl rfl)
 obtain ⟨bu, e5, _⟩ := DataW.trod_bool Tryz.underlying4 h5
 obtain ⟨un, e6, _, wf6⟩ := DataW.trod_int Tryz.underlying2 h6
 have un6 : -9223372036854775808 ≤ un ∧ un ≤ 9223372036854775807 := by
  unfold Lit.wf at wf6
  simp only [Bool.and_eq_true, decide_eq_true_eq] at wf6
  exact wf6
 obtain ⟨rfl⟩ := e0
 obtain ⟨rfl⟩ := e1
 obtain ⟨rfl⟩ := e5
 obtain ⟨rfl⟩ := e6
 have b32 : Tryz.prog.bytesOf 108 = 32 := by kernel_rfl
 have b9 : Tryz.prog.bytesOf 9 = 16 := by kernel_rfl
 have b34 : Tryz.prog.bytesOf 110 = 24 := by kernel_rfl
 rw [b32] at np
 rw [b9] at nl
 rw [b34] at nr
 have := reachBytes_lt
 refine ⟨⟨kd, tx, lp, ll, lr, bu, un⟩, ⟨_, _, _, rfl, sp, sl, sr⟩, ⟨?_, ?_, ?_⟩, ⟨?_, gp, gl, fun r hr => (gr r hr).1⟩, rfl, un6, fun r hr => (gr r hr).2⟩
 ·show lp.length < _; omega
 ·show ll.length < _; omega
 ·show lr.length < _; omega
 ·show tx.size < _; omega
structure GoodX (h : Heap) (x : RX) : Prop where
 th : TH h x.vs x.thing
 fits : Fits x.thing
 sized : Sized x.thing
 key : x.key.size < 1000000000000000000
 unt : -9223372036854775808 ≤ x.thing.unt ∧ x.thing.unt ≤ 9223372036854775807
 ri : ∀ r ∈ x.thing.ranks, -9223372036854775808 ≤ r.score ∧ r.score ≤ 9223372036854775807
set_option maxRecDepth 100000 in
theorem open_entry (h : DataW.trod enc Tryz.prog W base sp held n 29 cs = some x) (hw : Wts Tryz.prog 29 x.1) : ∃ a : RX, cs = encX a ∧ GoodX W.heap a := by
 obtain ⟨xs, m, rfl, hx, hl, hls, hi⟩ := DataW.trod_struct Tryz.underlying29 h
 have hd : x.1 = .agg (xs.map (·.1)) := congrArg Prod.fst hx
 have c9 : Tryz.prog.cellsOf 9 = 1 := by kernel_rfl
 have c7 : Tryz.prog.cellsOf 27 = 7 := by kernel_rfl
 have cc : Tryz.prog.cellsOf 29 = 8 := by kernel_rfl
 rw [cc] at hl
 obtain ⟨k0, a0, a1, a2, a3, a4, a5, a6, rfl⟩ := len8 hl
 obtain ⟨y, z, rfl⟩ := len2 (l := xs) hls
 have h0 := fld hi 0 9 0 1 rfl rfl rfl c9 rfl rfl
 have h1 := fld hi 1 27 1 7 rfl rfl rfl c7 rfl rfl
 have hwk : ∀ (i t : Nat) (w : DataW H × List MemPlace), [9, 27][i]? = some t → [y, z][i]? = some w → Wts Tryz.prog t w.1 := by
  intro i t y ht hy k hk
  refine hw k ?_
  rw [hd]
  simp only [DataW.weights, Tryz.underlying29]
  refine DataW.weights_mem_each (j := i) (t := t) (d := y.1) ?_ ?_ k hk
  ·exact ht
  ·rw [List.getElem?_map, hy]; rfl
 obtain ⟨key, e0, hz⟩ := str_of_trod Tryz.underlying9 h0 (hwk 0 9 y rfl rfl)
 obtain ⟨t, th, ft, st, hl7, un, ri⟩ := open_thing h1 (hwk 1 27 z rfl rfl)
 obtain ⟨rfl⟩ := e0
 have := reachBytes_lt
 exact ⟨⟨key, t, _, hl7, thing_one th⟩, rfl, th, ft, st, by show key.size < _; omega, un, ri⟩
set_option maxRecDepth 100000 in
theorem open_entries9 {v : Value} {d : DataW H} {ps : List MemPlace} {r : Reach} {b0 : Nat} (hval : Value.okWide Tryz.prog W r b0 32 v) (h : DataW.Trod enc Tryz.prog W base sp held 32 v d ps) (hw : Wts Tryz.prog 32 d) :
  ∃ l : List RX, SL encX W.heap v l ∧ GX W.heap l ∧ XFit l ∧ (∀ x ∈ l, -9223372036854775808 ≤ x.thing.unt ∧ x.thing.unt ≤ 9223372036854775807) ∧ ∀ x ∈ l, ∀ r ∈ x.thing.ranks, -9223372036854775808 ≤ r.score ∧ r.score ≤ 9223372036854775807 := by
 obtain ⟨n, hn⟩ := cell_arg Tryz.underlying32 hval h
 obtain ⟨l, sl, g, nl⟩ := open_cell (k := 8) (en := encX) Tryz.underlying32 (by kernel_rfl) (by decide) encX_len (fun n cs x h hw => open_entry h hw) hn hw
 have b : Tryz.prog.bytesOf 29 = 128 := by kernel_rfl
 rw [b] at nl
 have := reachBytes_lt
 exact ⟨l, sl, fun x hx => (g x hx).th, ⟨by omega, fun x hx => by have := (g x hx).key; omega, fun x hx => (g x hx).fits, fun x hx => (g x hx).sized⟩, fun x hx => (g x hx).unt, fun x hx => (g x hx).ri⟩
end
end Go.Proofs.YtjnijlnmbjjgpaaGreatDoor
namespace Go.Proofs.YtjnijlnmbjjgpaaGreatDoor
open Go Go.Sx Go.ChangeShapes Go.WideShapes Go.ChangeAt Go.RowKit
theorem trod_iface {H : Type} {enc : TypeId × Value → H} {P : Program} {w : World} {base n : Nat} {sp : Nat → Bool} {held : Bool} {t : TypeId} {cs : List Value} {x : DataW H × List MemPlace}
  (ht : (match P.underlying t with | some (.interface _) => true | _ => false) = true) (h : DataW.trod enc P w base sp held n t cs = some x) : ∃ v, cs = [v] ∧ IfaceV v := by
 obtain ⟨ms, ht⟩ : ∃ ms, P.underlying t = some (.interface ms) := by
  split at ht
  ·rename_i ms h1; exact ⟨ms, h1⟩
  ·cases ht
 cases n with
 |zero => simp [DataW.trod] at h
 |succ n =>
  simp only [DataW.trod, ht] at h
  split at h <;> first | exact ⟨_, rfl, .inl rfl⟩ | exact ⟨_, rfl, .inr ⟨_, _, rfl⟩⟩ | (exfalso; simp_all; done)
theorem errV {W : World} {n : String} {gi : Nat} {g : Nat} {t : TypeId} {cs : Array Value} {fuel : Nat} {d : DataW Unit} {p : List MemPlace} (hgi : Tryz.prog.globalNamed n = some gi) (hti : (Tryz.prog.globals[gi]?).map (·.type) = some 244)
  (hg : Tryz.prog.globalNamed n = some g) (ht : (Tryz.prog.globals[g]?).map (·.type) = some t) (hv : W.var? Tryz.prog n = some cs) (h : DataW.trod (fun _ => ()) Tryz.prog W 0 (fun _ => true) false fuel t cs.toList = some (d, p)) :
  ∃ v, cell W.heap gi 0 = some v ∧ IfaceV v := by
 obtain rfl := Option.some.inj (hgi.symm.trans hg)
 obtain rfl := Option.some.inj (hti.symm.trans ht)
 obtain ⟨v, e, hi⟩ := trod_iface (by kernel_rfl) h
 refine ⟨v, ?_, hi⟩
 unfold World.var? at hv
 rw [hgi] at hv
 have hv : (match W.heap[gi]? with | some (.cells cs _ _) => some cs | _ => none) = some cs := hv
 unfold cell
 split at hv
 ·rename_i h1
  injection hv with hv
  subst hv
  rw [h1]
  show (_ : Array Value)[0]? = _
  rw [← Array.getElem?_toList, e]; rfl
 ·cases hv
theorem laidN_of {W : World} (h : laidMetH Tryz.prog laid5 W) : LaidN W.heap := by
 have h : laidMet Tryz.prog laid5 W := h
 obtain ⟨ps, ⟨_, _, _, _, _, _, _, _, _, _, ⟨_, _, _, _, _, _, _, _, _, _, ⟨g, t, cs, fuel, p, q, hg, ht, hv, htr, ⟨g2, t2, cs2, fuel2, p2, q2, hg2, ht2, hv2, htr2, ⟨g3, t3, cs3, fuel3, p3, q3, hg3, ht3, hv3, htr3, _, _⟩, _⟩, _⟩, _⟩, _⟩, _⟩ := h
 refine ⟨?_, errV (by kernel_rfl) (by kernel_rfl) hg3 ht3 hv3 htr3, errV (by kernel_rfl) (by kernel_rfl) hg2 ht2 hv2 htr2⟩
 have hgi : Tryz.prog.globalNamed "internal/strconv.uint64pow10" = some 0 := by kernel_rfl
 have hti : (Tryz.prog.globals[0]?).map (·.type) = some 234 := by kernel_rfl
 obtain rfl := Option.some.inj (hgi.symm.trans hg)
 obtain rfl := Option.some.inj (hti.symm.trans ht)
 have hc := Lib.cells_of_tab (k := .u64) (zs := Lib.pow10Tab) (n := 20) (e := 183) (by kernel_rfl) (by kernel_rfl) (by kernel_rfl) (by kernel_rfl) htr
 unfold World.var? at hv
 rw [hgi] at hv
 have hv : (match W.heap[(0 : Nat)]? with | some (.cells cs _ _) => some cs | _ => none) = some cs := hv
 split at hv
 ·rename_i h1
  injection hv with hv
  subst hv
  exact ⟨_, _, by rw [h1, ← hc]⟩
 ·cases hv
section
variable {H : Type} {enc : TypeId × Value → H} {W : World} {base n : Nat} {sp : Nat → Bool} {held : Bool}
set_option maxRecDepth 100000 in
theorem open_strs {v : Value} {d : DataW H} {ps : List MemPlace} {r : Reach} {b0 : Nat} (hval : Value.okWide Tryz.prog W r b0 24 v) (h : DataW.Trod enc Tryz.prog W base sp held 24 v d ps) (hw : Wts Tryz.prog 24 d) :
  ∃ l : List ByteArray, SL encS W.heap v l ∧ SFit l := by
 obtain ⟨n, hn⟩ := cell_arg Tryz.underlying24 hval h
 obtain ⟨l, sl, g, nl⟩ := open_cell (k := 1) (en := encS) Tryz.underlying24 (by kernel_rfl) (by decide) encS_len (fun n cs x h hw => open_s h hw) hn hw
 have b : Tryz.prog.bytesOf 9 = 16 := by kernel_rfl
 rw [b] at nl
 have := reachBytes_lt
 exact ⟨l, sl, ⟨by omega, fun x hx => by have := g x hx; omega⟩⟩
end
end Go.Proofs.YtjnijlnmbjjgpaaGreatDoor
namespace Go.Proofs.YtjnijlnmbjjgpaaGreatDoor
open Go Go.Sx Go.ChangeShapes Go.WideShapes Go.ChangeAt Go.RowKit
theorem g64 : Tryz.prog.globalNamed "math/bits.deBruijn64tab" = some 3 := by kernel_rfl
theorem tab64_in : ∀ i < 64, 0 ≤ tab64.getD i 0 ∧ tab64.getD i 0 ≤ 255 := by decide
theorem laid_tail {P : Program} {W : World} {x : String × DataW Unit} {l : List (String × DataW Unit)} (h : laidMet P (x :: l) W) : ∃ ps, DataW.LaidVars P W l ps := by
 obtain ⟨ps, ⟨g', t', cs, fuel, p, q, hg', ht', hvar, hd, hr, _⟩, _⟩ := h
 exact ⟨q, hr⟩
theorem tabH_of {W : World} (h : laidMetH Tryz.prog laid5 W) : K5.TabH W.heap := by
 have h' : laidMet Tryz.prog laid5 W := h
 obtain ⟨ps, g', t', cs, fuel, p, q, hg', ht', hvar, hd, _, _⟩ := laid_tail h'
 obtain rfl := Option.some.inj (g64.symm.trans hg')
 have hti : (Tryz.prog.globals[3]?).map (·.type) = some 318 := by kernel_rfl
 obtain rfl := Option.some.inj (hti.symm.trans ht')
 have hcs := Lib.cells_of_tab (k := .u8) (zs := tab64) (n := 64) (e := 5) (by kernel_rfl) (by kernel_rfl) (by kernel_rfl) (by kernel_rfl) hd
 intro i hi
 have hc := World.var?_cell g64 hvar i
 have h1 := tab64_in i hi
 refine ⟨tab64.getD i 0, h1.1, h1.2, ?_⟩
 rw [← world_cell, hc]
 have e1 : cs[i]? = cs.toList[i]? := by simp
 rw [e1, hcs]
 have hi' : i < tab64.length := hi
 simp [List.getD, hi']
theorem ce_params : ∀ t ∈ Tryz.f9.params.toList, Tryz.prog.readableRec t = true ∧ t < Tryz.prog.types.size := by
 rw [Tryz.params9]
 intro t ht
 have ht : t ∈ [32, 2, 24] := ht
 rcases List.mem_cons.1 ht with h | h
 ·subst h; exact ⟨by kernel_rfl, of_decide_eq_true (by kernel_rfl)⟩
 rcases List.mem_cons.1 h with h | h
 ·subst h; exact ⟨by kernel_rfl, of_decide_eq_true (by kernel_rfl)⟩
 have h := List.mem_singleton.1 h
 subst h; exact ⟨by kernel_rfl, of_decide_eq_true (by kernel_rfl)⟩
set_option maxRecDepth 100000 in
theorem ce_law (H : Type) (enc : TypeId × Value → H) (W : World) (base : Nat) (args : Array Value) (ds gs : List (DataW H)) (before : List MemPlace)
  (hval : ∀ (j : Nat) t v, Tryz.f9.params[j]? = some t → args[j]? = some v → Value.okWide Tryz.prog W .any base t v)
  (hW : DataW.Whole enc Tryz.prog Tryz.f9.params.toList Rows.collsEffectsSpec.vars false W args.toList ds gs before)
  (hL : laidMetH Tryz.prog laid5 W)
  (hsz : (DataW.weightsEach Tryz.prog (Tryz.f9.params.toList ++ (OpenSpec.ofChange Rows.collsEffectsSpec).bare.plain.varTypes Tryz.prog) (ds ++ gs)).all (· ≤ reachBytes) = true) :
  Calls Tryz.prog 9 args W fun e W' => ∃ v, e = .returned v ∧ Rows.collsEffectsSpec.post enc Tryz.prog Tryz.f9 false true false false W args v W' := by
 refine lift_law (tb := 4) laidOut ce_params rfl Tryz.underlying4 rfl
  (fun l hl => by
   rw [Tryz.params9] at hl
   match l, hl with
   |[_, _, _], _ => rfl) hW ?_
 obtain ⟨p, q, hA, hV, _, _, _⟩ := hW
 obtain ⟨rfl, rfl⟩ := trodVars_none hV
 rw [Tryz.params9] at hA hval hsz
 obtain ⟨v0, vs0, d0, ds0, p0, q0, hargs, rfl, rfl, h0, r0⟩ := trodAll_cons hA
 obtain ⟨v1, vs1, d1, ds1, p1, q1, rfl, rfl, rfl, h1, r1⟩ := trodAll_cons r0
 obtain ⟨v2, vs2, d2, ds2, p2, q2, rfl, rfl, rfl, h2, r2⟩ := trodAll_cons r1
 obtain ⟨rfl, rfl, rfl⟩ := trodAll_nil r2
 obtain rfl : args = #[v0, v1, v2] := by cases args; simp_all
 obtain ⟨l, sl, g, f, hun, hri⟩ := open_entries9 (hval 0 32 v0 rfl rfl) h0 (wts_each hsz (j := 0) rfl rfl)
 obtain ⟨now, rfl⟩ := int_arg Tryz.underlying2 (hval 1 2 v1 rfl rfl)
 obtain ⟨A, sa, fa⟩ := open_strs (hval 2 24 v2 rfl rfl) h2 (wts_each hsz (j := 2) rfl rfl)
 exact CollsEffects_calls sl sa g f fa hun hri (laidN_of hL) (tabH_of hL)
noncomputable def ceArgs : Array Value := #[.slice none 0 0, .int .i64 0, .slice none 0 0]
theorem ce_reads (os : Os) {H : Type} (enc : TypeId × Value → H) : ∃ places, DataW.whole enc Tryz.prog ((laidWorld os).forCall (fun _ _ => 0) ⟨#[], ceArgs, []⟩).memory Tryz.f9.params.toList Rows.collsEffectsSpec.vars false ceArgs.toList 8 =
  some ([.nil, .lit (.int .i64 0), .nil], [], places) :=
 ⟨[], by kernel_rfl⟩
set_option maxRecDepth 100000 in
theorem ce_lifted (os : Os) (started : os.Started) (H : Type) (enc : TypeId × Value → H) (F : Stop.Interp) :
  ReturnsInHanded {} Tryz.checked os 9 .any ((OpenSpec.ofChange Rows.collsEffectsSpec).preRow enc Tryz.prog Tryz.f9 Rows.collsEffectsRow.domain false Rows.collsEffectsRow.laid) (((OpenSpec.ofChange Rows.collsEffectsSpec).at F).post enc Tryz.prog Tryz.f9 false true false false) := by
 obtain ⟨places, hx⟩ := ce_reads os enc
 refine returnsInHanded_of_row (C := Tryz.checked) (s := OpenSpec.ofChange Rows.collsEffectsSpec) own started (by kernel_rfl) Tryz.func9
  (witness_row_at (enc := enc) (C := Tryz.checked) false (laidWorld os) ceArgs rfl (by kernel_rfl) (by kernel_rfl) (by kernel_rfl)
   (OpenSpec.preRow_of_cond 8 hx (by kernel_rfl) (fun k hk => by cases hk) (by kernel_rfl) (laid_met os ceArgs))) ?_
 intro W base args ds gs before hval hW _ _ hsz hL _ _
 exact ce_law H enc W base args ds gs before hval hW hL hsz
theorem and_i {a b : Bool} (h1 : a = true) (h2 : b = true) : (a && b) = true := by rw [h1, h2]; rfl
set_option maxHeartbeats 8000000 in
theorem ce_facts : joinedFacts Tryz.prog 9 Tryz.f9 (OpenSpec.ofChange Rows.collsEffectsSpec).bare Rows.collsEffectsRow = true := by
 unfold joinedFacts
 iterate 31 refine and_i ?_ (by as_aux_lemma => kernel_rfl)
 as_aux_lemma => kernel_rfl
theorem ce_said : Rows.CollsEffectsSaid :=
 OpenClaim.holds_of_cond 9 Tryz.f9 rfl rfl rfl rfl rfl rfl rfl ⟨rfl, rfl, rfl, rfl, rfl⟩ rfl rfl rfl rfl rfl (by kernel_rfl) Tryz.func9 ce_facts
  (of_decide_eq_true (by kernel_rfl)) (by unfold Func.isWrapper; first | (rw [if_pos (by decide +kernel)]; kernel_rfl) | (rw [if_neg (by decide +kernel)]; exact ⟨rfl, rfl⟩))
  (fun os started H enc _ F => by rw [OpenClaim.pre_eq_preRow]; exact ce_lifted os started H enc F)
theorem ce_plain (f : FuncId) (fn : Func) (hf : Tryz.pinned.checked.prog.funcNamed "tabor/taborlaw09.CollsEffects" = some f) (hfn : Tryz.pinned.checked.prog.funcs[f]? = some fn) :
  true = Tryz.pinned.checked.prog.looks [] ∧ ∀ (j : Nat) t, fn.params[j]? = some t → Tryz.pinned.checked.prog.wantsStandIn t = false := by
 obtain rfl : f = 9 := Option.some.inj ((show Tryz.prog.funcNamed "tabor/taborlaw09.CollsEffects" = some 9 by kernel_rfl).symm.trans hf) |>.symm
 obtain rfl : fn = Tryz.f9 := (Option.some.inj (Tryz.func9.symm.trans hfn)).symm
 refine ⟨by kernel_rfl, fun j t ht => ?_⟩
 rw [Tryz.params9] at ht
 have ht : t ∈ [32, 2, 24] := by simpa using Array.mem_of_getElem? ht
 rcases List.mem_cons.1 ht with h | h
 ·subst h; exact (show Tryz.prog.wantsStandIn 32 = false by kernel_rfl)
 rcases List.mem_cons.1 h with h | h
 ·subst h; exact (show Tryz.prog.wantsStandIn 2 = false by kernel_rfl)
 have h := List.mem_singleton.1 h
 subst h; exact (show Tryz.prog.wantsStandIn 24 = false by kernel_rfl)
theorem ce_card : Rows.CollsEffectsCardSaid :=
 Claim7.holds_tied_plain_at .later [] _ _ _ _ ce_said (fun _ h => by cases h) (by kernel_rfl) (fun _ h => by cases h) collsEffects_row_tie rfl ⟨rfl, rfl⟩ (by kernel_rfl) rfl ce_plain (by kernel_rfl)
#print axioms ce_card
end Go.Proofs.YtjnijlnmbjjgpaaGreatDoor
