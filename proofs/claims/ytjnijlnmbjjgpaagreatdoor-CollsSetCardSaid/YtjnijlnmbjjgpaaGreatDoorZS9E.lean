/-
  Layer 9: looking for a field, a member; adding; which names are new.
  Layer 9: the commands of hashes. (Written by gencI.py.)
  Layer 9: the commands of lists: LLEN, LPOP, RPOP, LINDEX, LRANGE, LSET, LPUSH, RPUSH.
  Layer 9: the commands of sets, but SINTER.
  The contracts of the functions of taborref05: what they give is what plain functions on lists give.
  The contracts of taborref05.Set and Of.
  The contract of taborref05.Of.
  The order of members, in plain Lean.
  A ranked set in the heap: its members, one behind the other, and at each height the links. Plain.
  The way down.
  Small ones: less, TrailingZeros, none.
  Links put in and taken out, height by height. Plain.
  A member put in, height by height: what holds below a height, and above. Plain.
  put.
  put, walked.
  A member taken out, height by height. Plain.
  take, walked.
  What a set's map tells; Drop, Len, Set, Score.
  Set, Score, Rank.
  begun, Of.
  from, At, Between.
  At, Between.
  Layer 9: the commands of ranked sets. (Written by gencK.py.)
  Layer 9: SINTER: a map that counts, its keys in order.
  Layer 9: Do, whatever is asked: its effects are all done.
  Layer 9: the program's answer against the document's: replies, effects, the keyspace.
  Layer 9: the commands of lists, by the program and by the document. (Written by genrp.py.)
  Layer 9: the document's answer: is a name there? is it named ahead?
  Layer 9: the document's answer: what is taken away (HDEL, SREM, ZREM).
  Layer 9: Apply once more: what is made of a thing lies in new blocks.
  Layer 9: what was put in is told; plain.
  Layer 9: what was put in is told: the calls. (Written by genct.py.)
  Layer 9: the document's answer: the commands of hashes. (Written by genrk.py.)
  Layer 9: the document's answer: HSET.
  Layer 9: the document's answer: Do, for the commands of hashes, sets and ranked sets. (Written by genre.py.)
  Layer 9: the document's bounds, the other names. (Written by genrd2.py.)
  Layer 9: the commands of hashes, by the program and by the document. (Written by genrp2.py.)
  Layer 9: the document's answer: the commands of sets. (Written by genrs.py.)
  Layer 9: the commands of sets but SINTER, by the program and by the document. (Written by genrp3.py.)
  Layer 9: the document's answer: SINTER.
  Layer 9: the document's answer: Do, for SINTER; SINTER by the program and by the document. (Written by genre3.py.)
  Layer 9: what is too much.
  Layer 9: known(), by a walk.
  Layer 9: the law of the commands of lists (taborlaw09.CollsList). (Written by genrq.py.)
  Layer 9: the law of the commands of sets (taborlaw09.CollsSet). (Written by genrq4.py.)
  The world of a witness: the tables and errors of strconv and math/bits as they are laid.
  Layer 7: things, entries and effects opened.
  Layer 8: strconv's laid variables, as the walks want them; arguments opened.
  Layer 9: the table of math/bits as it is laid.
-/
import Derived.Test.YtjnijlnmbjjgpaaGreatDoorCards
import Derived.Test.YtjnijlnmbjjgpaaGreatDoorTie
import Derived.Deep.DeepHandedRow
import Derived.ProofKit
import Derived.Test.YtjnijlnmbjjgpaaGreatDoorZS9D
namespace Go.Proofs.YtjnijlnmbjjgpaaGreatDoor
open Go Go.Sx C
theorem cNaN_calls {h : Heap} {s : ByteArray} : CallsH Tryz.prog 306 [.string s] h (Ret fun r h' => r = .bool false ∧ h' = h) := by
 refine f306_calls (by simp) ?_
 exact Ai (fun h1 => absurd rfl h1) (fun _ => ⟨rfl, rfl⟩)
theorem sNaN_calls {h : Heap} {s : ByteArray} : CallsH Tryz.prog 278 [.string s] h (Ret fun r h' => r = .bool false ∧ h' = h) := by
 refine f278_calls (by simp) ?_
 exact Ai (fun h1 => absurd rfl h1) (fun _ => ⟨rfl, rfl⟩)
theorem cLess_calls {h : Heap} {x y : ByteArray} : CallsH Tryz.prog 277 [.string x, .string y] h (Ret fun r h' => r = .bool (sless x y) ∧ h' = h) := by
 refine f277_calls (by simp) ?_
 refine callp cNaN_calls ?_
 refine Ai (fun hl => ?_) (fun hl => ?_)
 ·have e : sless x y = true := hl
  exact ⟨by rw [e]; rfl, rfl⟩
 ·have e : sless x y = false := by
   cases hb : sless x y with
   |false => rfl
   |true => exact absurd hb hl
  exact ⟨by rw [e]; rfl, rfl⟩
theorem bsO_calls {h : Heap} {v : Value} {l : List ByteArray} {tgt : ByteArray} (hv : SL encS h v l) (hl : l.length < 4611686018427387904) (hs : l.Pairwise fun a b => sless a b = true) :
  CallsH Tryz.prog 235 [v, .string tgt] h (Ret fun r h' => (∃ k : Nat, r = .tuple #[.int .i64 k, .bool (thereL l tgt)]) ∧ h' = h) := by
 obtain ⟨a, c, rfl, hlc⟩ := hv.form
 have hm : ∀ i j (hj : j < l.length) (hi : i ≤ j), sless l[j] tgt = true → sless (l[i]'(by omega)) tgt = true := fun i j hj hi hb => by
  by_cases e : i = j
  ·subst e; exact hb
  ·exact sless_trans (List.pairwise_iff_getElem.1 hs i j (by omega) hj (by omega)) hb
 refine f235_calls (by simp) ?_
 refine loop_intro (fun p : Nat × Nat => [(0, .slice a l.length c), (1, .string tgt), (6, .int .i64 l.length), (7, .int .i64 p.1), (8, .int .i64 p.2)])
  (fun p h' => p.1 ≤ p.2 ∧ p.2 ≤ l.length ∧ h' = h ∧ (∀ i (_ : i < p.1) (h : i < l.length), sless l[i] tgt = true) ∧ (∀ i (_ : p.2 ≤ i) (h : i < l.length), sless l[i] tgt = false)) (fun p => p.2 - p.1) (0, l.length)
  ⟨rfl, rfl, rfl, rfl, rfl, trivial⟩ ⟨Nat.zero_le _, Nat.le_refl _, rfl, by intro i hi; omega, by intro i hi hh; omega⟩ ?_
 rintro ⟨i, j⟩ h1 ⟨hij, hjl, hc, hlow, hhigh⟩
 have hc := hc.symm
 subst hc
 simp only at hij hjl hlow hhigh
 refine Ai rfl (Ai (fun hlt => ?_) (fun hlt => ?_))
 ·have hlt : i < j := by omega
  refine Ai rfl (fun z hz => ?_)
  have hz := add_in hz (by omega) (by omega)
  subst hz
  intro z hz
  rw [wrapU (by omega) (by omega)] at hz
  subst hz
  refine Ai rfl (fun z hz => ?_)
  have hz : z = ((i : Int) + j) / 2 := by
   have : z = ((i : Int) + j).fdiv (2 ^ 1) := hz
   rw [this, Int.fdiv_eq_ediv_of_nonneg _ (by decide)]
   rfl
  subst hz
  intro z hz
  rw [wrap_in (by omega) (by omega)] at hz
  obtain ⟨m, hm1⟩ : ∃ m : Nat, m = (i + j) / 2 := ⟨_, rfl⟩
  have hz : z = (m : Int) := by omega
  subst hz
  have him : i ≤ m := by omega
  have hmj : m < j := by omega
  have hml : m < l.length := by omega
  obtain ⟨b, o, rfl⟩ := hv.addr (by omega)
  have hcs := hv.cells encS_len (i := m) (x := l[m]) (by simp [hml])
  refine Ai (by omega) (Ai (by omega) (Ei _ (Ai (hcs 0 _ rfl) ?_)))
  refine callp cLess_calls ?_
  cases hb : sless l[m] tgt with
  |true =>
   refine Ai rfl (fun y hy => ?_)
   have hy := add_in hy (by omega) (by omega)
   have hy : y = ((m + 1 : Nat) : Int) := by omega
   subst hy
   refine Ai rfl (Ei (m + 1, j) (Ai ?_ (Ai ?_ ?_)))
   ·exact ⟨rfl, rfl, rfl, rfl, rfl, trivial⟩
   ·refine ⟨by simp only; omega, hjl, rfl, fun q hq hql => ?_, hhigh⟩
    exact hm q m hml (by simp only at hq; omega) hb
   ·simp only; omega
  |false =>
   refine Ai rfl (Ei (i, m) (Ai ?_ (Ai ?_ ?_)))
   ·exact ⟨rfl, rfl, rfl, rfl, rfl, trivial⟩
   ·refine ⟨him, by simp only; omega, rfl, hlow, fun q hq hql => ?_⟩
    cases hbb : sless l[q] tgt with
    |false => rfl
    |true => rw [hm m q hql (by simp only at hq; omega) hbb] at hb; cases hb
   ·simp only; omega
 ·have hij2 : i = j := by omega
  subst hij2
  have hno : (∀ (hi : i < l.length), l[i] ≠ tgt) → thereL l tgt = false := fun hne => decide_eq_false fun hm9 => by
   obtain ⟨q, hq, e⟩ := List.getElem_of_mem hm9
   by_cases h1 : q < i
   ·have := hlow q h1 hq
    rw [e, sless_irrefl] at this
    cases this
   ·by_cases h2 : q = i
    ·subst h2; exact hne hq e
    ·have h3 := List.pairwise_iff_getElem.1 hs i q (by omega) hq (by omega)
     rw [e] at h3
     have h4 := hhigh i (Nat.le_refl _) (by omega)
     rw [h3] at h4
     cases h4
  refine Ai rfl (Ai (fun hin => ?_) (fun hin => ?_))
  ·have hin : i < l.length := by omega
   obtain ⟨b, o, rfl⟩ := hv.addr (by omega)
   have hcs := hv.cells encS_len (i := i) (x := l[i]) (by simp [hin])
   refine Ai (by omega) (Ai (by omega) (Ei _ (Ai (hcs 0 _ rfl) ?_)))
   refine Ai (fun he => ?_) (fun hne => ?_)
   ·have e : thereL l tgt = true := decide_eq_true (by rw [← show l[i] = tgt from he]; exact List.getElem_mem hin)
    exact ⟨⟨i, by rw [e]; rfl⟩, rfl⟩
   ·refine Ai (by omega) (Ai (by omega) (Ei _ (Ai (hcs 0 _ rfl) ?_)))
    refine callp sNaN_calls ?_
    exact ⟨⟨i, by rw [hno fun _ => hne]; rfl⟩, rfl⟩
  ·exact ⟨⟨i, by rw [hno fun h9 => by omega]; rfl⟩, rfl⟩
section
variable {h0 h h1 h' : Heap} {ab kb sb mb c bs bt b1 b2 : Nat} {now : Int} {av lv pv lw rv fv : Value} {key s n : ByteArray} {t : Thing} {is : Bool} {A pre : List ByteArray} {L : List Eff} {M : List En} {T : List Nat} {p : ByteArray → Bool} {Z : Heap → Prop}
theorem thC (hE : (cE ab kb now av key t is pv lw rv lv L).at h) : SL encP h pv t.pairs ∧ SL encS h lw t.list ∧ SL encR h rv t.ranks := by
 obtain ⟨_, _, hT, _⟩ := hE
 obtain ⟨p, l, r, e, h1, h2, h3⟩ := hT
 simp only [cellsT, List.cons.injEq, and_true, true_and] at e
 obtain ⟨rfl, rfl, rfl⟩ := e
 exact ⟨h1, h2, h3⟩
theorem member9_calls (hE : (cE ab kb now av key t is pv lw rv lv L).at h) (hl : t.list.length < 4611686018427387904) (hs : t.list.Pairwise fun a b => sless a b = true) :
  CallsH Tryz.prog 172 [ptr ab, .string n] h (Ret fun r h' => r = .bool (thereL t.list n) ∧ Chg [] h h') := by
 have sp := (thC hE).2.1
 obtain ⟨pa, pc, rfl, _⟩ := sp.form
 refine f172_calls (by simp) ?_
 refine Ei _ (Ai (cell_blk hE.1 rfl) ?_)
 refine call_ret (bsO_calls sp hl hs) ?_
 rintro r h2 ⟨⟨k, rfl⟩, e⟩
 have e := e.symm
 subst e
 exact ⟨rfl, Chg.refl _⟩
def TC (ab kb : Nat) (now : Int) (av : Value) (t : Thing) (is : Bool) (pv lw rv : Value) (Z : Heap → Prop) (fv : Value) (p : ByteArray → Bool) : Prop :=
 ∃ g fi cap, fv = .func (.func g) fi cap ∧ ∀ {h : Heap} {s key : ByteArray} {lv : Value} {L : List Eff}, (cE ab kb now av key t is pv lw rv lv L).at h → Z h → CallsH Tryz.prog g (fi.toList ++ [.string s] ++ cap.toList) h (Ret fun u h' => u = .bool (p s) ∧ Chg [] h h')
theorem tc_member (hl : t.list.length < 4611686018427387904) (hs : t.list.Pairwise fun a b => sless a b = true) : TC ab kb now av t is pv lw rv (fun _ => True) (.func (.func 172) #[ptr ab] #[]) (thereL t.list) :=
 ⟨_, _, _, rfl, fun {_h _s _key _lv _L} hE _ => member9_calls hE hl hs⟩
def frE (bs mb bt : Nat) (fv : Value) (pre : List ByteArray) : En :=
 .x [bs, mb, bt] (fun h => Blk h bs [.map (some mb)] ∧ (∃ es c, MapB h mb es c ∧ CM es pre) ∧ Blk h bt [fv] ∧ bs ≠ mb ∧ bt ≠ mb)
  (fun _ _ _ hc hn ⟨h1, ⟨es, c, h2, h3⟩, h4, h5, h6⟩ => ⟨h1.chg hc (hn _ (by simp)), ⟨es, c, h2.chg hc (hn _ (by simp)), h3⟩, h4.chg hc (hn _ (by simp)), h5, h6⟩)
  (fun _ ⟨h1, ⟨_, _, h2, _⟩, h4, _⟩ b hb => by
   simp at hb
   rcases hb with rfl | rfl | rfl
   ·exact h1.lt
   ·exact h2.lt
   ·exact h4.lt)
theorem fresh9_calls {f : Fn} {fi cap : Array Value} : CallsH Tryz.prog 152 [.func f fi cap] h (Ret fun r h' => (∃ bs mb bt, r = .func (.func 228) #[] #[ptr bs, ptr bt] ∧ (frE bs mb bt (.func f fi cap) []).at h' ∧ ∀ b ∈ [bs, mb, bt], h.size ≤ b) ∧ Chg [] h h') := by
 refine f152_calls (by simp) ?_
 intro bt h1 g1
 have w := (St.start h).new g1
 intro mb h2 g2
 have w := w.newm g2
 intro bs h3 g3
 have w := w.new g3
 refine w.st1 0 rfl rfl rfl rfl fun h4 w => ?_
 have n1 := g1.id; have n2 := g2.id; have n3 := g3.id
 have z1 := g1.size; have z2 := g2.size; have z3 := g3.size
 refine ⟨⟨bs, mb, bt, rfl, ⟨w.get 0 rfl, ⟨[], 0, w.get 1 rfl, CM.nil⟩, w.get 2 rfl, by omega, by omega⟩, fun b hb => ?_⟩, w.chg⟩
 simp at hb
 rcases hb with rfl | rfl | rfl <;> omega
theorem _root_.Go.Sx.St.fresh {K : Value → Heap → Prop} {Qp : List PanicEntry → Heap → Prop} (w : St T h0 h M) (i j : Nat) (hi : M[i]? = some (frE bs mb bt fv pre)) (hj : M[j]? = some (cE ab kb now av key t is pv lw rv lv L)) (hij : i ≠ j)
  (tc : TC ab kb now av t is pv lw rv Z fv p) (hZ : ∀ h', Chg [mb] h h' → Z h') (hpre : pre.length < 4611686018427387904)
  (k : ∀ h', St T h0 h' (M.set i (frE bs mb bt fv (pre ++ [s]))) → K (.bool (!p s && decide (s ∉ pre))) h') : CallsH Tryz.prog 228 [.string s, ptr bs, ptr bt] h (after K Qp) := by
 obtain ⟨B1, ⟨es, c, hM, cm⟩, B2, n1, n2⟩ := w.get i hi
 have hE := w.get j hj
 have hap : mb ∉ (cE ab kb now av key t is pv lw rv lv L).fp := w.apart i j _ _ hi hj hij mb (by simp [frE, En.fp])
 have hcl : cntB s pre ≤ pre.length := cntB_le
 have main : CallsH Tryz.prog 228 [.string s, ptr bs, ptr bt] h (Ret fun u h' => u = .bool (!p s && decide (s ∉ pre)) ∧ (frE bs mb bt fv (pre ++ [s])).at h' ∧ Chg [mb] h h') := by
  obtain ⟨g, fi, cap, rfl, hg⟩ := tc
  refine f228_calls (by simp) ?_
  refine Ei _ (Ai (cell_blk B1 rfl) ?_)
  -- behind the map's turn
  have rest : ∀ {h4 : Heap} {es' : List MapEntry} {c' : Nat}, PutO h h4 mb (.map ⟨es'⟩ c') → CM es' (pre ++ [s]) →
    swp Tryz.prog (.seq (.ops f228r2) .ret) (retQ [.t 4] (Ret fun u h' => u = .bool (!p s && decide (s ∉ pre)) ∧ (frE bs mb bt (.func (.func g) fi cap) (pre ++ [s])).at h' ∧ Chg [mb] h h')) (mk [(0, .string s), (1, ptr bs), (2, ptr bt)]) [] h4 := fun {h4 es' c'} p4 cm' => by
   have c4 : Chg [mb] h h4 := p4.chg
   have M4 : MapB h4 mb es' c' := p4.blk
   have B14 := B1.chg c4 (by simp [n1])
   have B24 := B2.chg c4 (by simp [n2])
   have hfr : ∀ {h5}, Chg [] h4 h5 → (frE bs mb bt (.func (.func g) fi cap) (pre ++ [s])).at h5 := fun c5 => ⟨B14.chg c5 (by simp), ⟨es', c', M4.chg c5 (by simp), cm'⟩, B24.chg c5 (by simp), n1, n2⟩
   obtain ⟨j2, e2⟩ := cm'.hit
   refine Ei _ (Ai (cell_blk B14 rfl) ?_)
   refine Ai rfl (Ei es' (Ei c' (Ai M4 (Ai cm'.fits ?_))))
   rw [e2]
   refine Ai rfl (Ai (fun h1 => ?_) (fun h1 => ?_))
   ·have hc0 : cntB s pre = 0 := by omega
    have hno : s ∉ pre := fun hm => by have := cntB_pos hm; omega
    refine Ei _ (Ai (cell_blk B24 rfl) ?_)
    have hE4 : (cE ab kb now av key t is pv lw rv lv L).at h4 := En.chg hE c4 (fun b hb hm => by simp at hm; subst hm; exact hap hb)
    refine call_ret (hg hE4 (hZ h4 c4)) ?_
    rintro _ h5 ⟨rfl, c5⟩
    refine ⟨?_, hfr c5, c4.trans c5 (by simp) (by simp)⟩
    rw [decide_eq_true hno, Bool.and_true]
    rfl
   ·have hin : s ∈ pre := by
     rcases Decidable.em (s ∈ pre) with h9 | h9
     ·exact h9
     ·exact absurd (by rw [cntB_zero h9]; rfl) h1
    refine ⟨?_, hfr (Chg.refl _), c4⟩
    rw [decide_eq_false (fun h9 => h9 hin), Bool.and_false]
    rfl
  rcases cm.cnt s with ⟨e1, hn⟩ | ⟨j1, e1, hm⟩
  ·refine Ai rfl (Ei es (Ei c (Ai hM (Ai cm.fits ?_))))
   rw [e1]
   refine Ai rfl (fun z hz => ?_)
   have hz : z = 1 := by have := add_in hz (by omega) (by omega); omega
   subst hz
   refine Ai rfl (Ei es (Ei c (Ai hM (Ai cm.fits ?_))))
   rw [e1]
   intro h4 p4
   exact cut_at [(0, .string s), (1, ptr bs), (2, ptr bt)] ⟨rfl, rfl, rfl, trivial⟩ (rest p4 (cm.put0 (c := c) e1 hn rfl))
  ·refine Ai rfl (Ei es (Ei c (Ai hM (Ai cm.fits ?_))))
   rw [e1]
   refine Ai rfl (fun z hz => ?_)
   have hz := add_in hz (by omega) (by omega)
   subst hz
   refine Ai rfl (Ei es (Ei c (Ai hM (Ai cm.fits ?_))))
   rw [e1]
   intro h4 p4
   exact cut_at [(0, .string s), (1, ptr bs), (2, ptr bt)] ⟨rfl, rfl, rfl, trivial⟩ (rest p4 (cm.put1 e1 rfl))
 refine call_ret main ?_
 rintro _ h2 ⟨rfl, hf, c2⟩
 exact k h2 (w.set i hi c2 (fun b hb => .inl (by simp at hb; simp [frE, En.fp, hb])) hf (fun b hb => .inl hb))
end
end Go.Proofs.YtjnijlnmbjjgpaaGreatDoor
namespace Go.Proofs.YtjnijlnmbjjgpaaGreatDoor
open Go Go.Sx C
theorem newL_app {th : ByteArray → Bool} : ∀ {a b pre : List ByteArray}, newL th pre (a ++ b) = newL th pre a ++ newL th (pre ++ a) b
 |[], b, pre => by simp [newL]
 |x :: a, b, pre => by
  have ih := newL_app (th := th) (a := a) (b := b) (pre := pre ++ [x])
  have e : pre ++ [x] ++ a = pre ++ x :: a := by simp
  rw [e] at ih
  simp only [List.cons_append, newL, ih, List.append_assoc]
theorem newL_snoc {th : ByteArray → Bool} {l : List ByteArray} {q : Nat} (hq : q < l.length) : newL th [] (l.take (q + 1)) = newL th [] (l.take q) ++ (if (!th l[q] && decide (l[q] ∉ l.take q)) = true then [l[q]] else []) := by
 rw [List.take_succ_eq_append_getElem hq, newL_app]
 simp [newL]
theorem newL_len {th : ByteArray → Bool} : ∀ {l pre : List ByteArray}, (newL th pre l).length ≤ l.length
 |[], _ => Nat.le_refl _
 |x :: l, pre => by
  have := newL_len (th := th) (l := l) (pre := pre ++ [x])
  simp only [newL]
  split <;> simp <;> omega
theorem newL_cnt {th : ByteArray → Bool} {l : List ByteArray} {q : Nat} {b : Bool} (hq : q < l.length) (hb : b = (!th l[q] && decide (l[q] ∉ l.take q))) : (newL th [] (l.take (q + 1))).length = (newL th [] (l.take q)).length + (if b = true then 1 else 0) := by
 rw [newL_snoc hq, ← hb]
 cases b <;> simp
theorem small_of9 {l : List ByteArray} {x : ByteArray} (h : l.all small = true) (hx : x ∈ l) : x.size ≤ 1048576 := of_decide_eq_true (List.all_eq_true.1 h x hx)
section
variable {h0 h h1 h2 h' : Heap} {ab kb sb mb c b1 b2 bs bt mb2 : Nat} {now op kd : Int} {av lv pv lw rv fv v : Value} {key why : ByteArray} {t : Thing} {is : Bool} {A l pre : List ByteArray} {L : List Eff} {m : List KI} {S : Space} {M : List En} {T : List Nat} {res : Res} {th : ByteArray → Bool} {Z : Heap → Prop}
theorem cons_of {n : Int} (hn : 1 ≤ n) (hb : n ≤ A.length) : ∃ k0 l, A = k0 :: l := by
 cases A with
 |nil => simp at hb; omega
 |cons k0 l => exact ⟨k0, l, rfl⟩
theorem fr_box (w : St T h0 h M) (i j : Nat) (hi : M[i]? = some (frE bs mb2 bt fv pre)) (hj : M[j]? = some (.b b1 [v])) (hij : i ≠ j) : ∀ h', Chg [mb2] h h' → Blk h' b1 [v] := fun h' c =>
 Blk.chg (w.get j hj) c fun hm => w.apart i j _ _ hi hj hij mb2 (by simp [frE, En.fp]) (by simp at hm; simp [En.fp, hm])
theorem tc_away (tc : TC ab kb now av t is pv lw rv Z fv th) : TC ab kb now av t is pv lw rv (fun h => Blk h b1 [fv] ∧ Z h) (.func (.func 232) #[] #[ptr b1]) (fun s => !th s) := by
 obtain ⟨g, fi, cap, rfl, hg⟩ := tc
 refine ⟨_, _, _, rfl, fun {h s key lv L} hE hZ => ?_⟩
 refine f232_calls (by simp) ?_
 refine Ei _ (Ai (cell_blk hZ.1 rfl) ?_)
 refine call_ret (hg hE hZ.2) ?_
 rintro _ h2 ⟨rfl, c2⟩
 exact ⟨rfl, c2⟩
set_option maxHeartbeats 1000000 in
theorem away9_calls {k0 : ByteArray} (p : P9 h0 kb sb mb c m S av (k0 :: l)) (hl : 1 ≤ l.length ∧ l.length < 65536) (x : As h0 h (cE ab kb now av key t is pv lw rv nilV [])) (tc : TC ab kb now av t is pv lw rv Z fv th)
  (hZ : ∀ h', Chg (cE ab kb now av key t is pv lw rv nilV []).fp h h' → Z h') :
  CallsH Tryz.prog 159 [ptr ab, .int .i64 op, fv] h (Ret fun r h' => r = repV 3 (hereL th l).length noText ∧ ∃ lv', Tn h0 h (cE ab kb now av key t is pv lw rv nilV []) h' (cE ab kb now av key t is pv lw rv lv' ((hereL th l).map fun n => ⟨op, key, n, noText, 0⟩))) := by
 obtain ⟨ba, oa, ac, rfl⟩ := p.argF (by simp)
 obtain ⟨fg, ffi, fcap, rfl⟩ : ∃ g fi cap, fv = .func (.func g) fi cap := by
  obtain ⟨g, fi, cap, e, _⟩ := tc
  exact ⟨g, fi, cap, e⟩
 refine f159_calls (by simp) ?_
 intro b5 h1 g1
 have w := x.st.new g1
 intro b6 h2 g2
 have w := w.new g2
 have hlc : (k0 :: l).length = l.length + 1 := rfl
 refine call_ret fresh9_calls ?_
 rintro _ h5 ⟨⟨bs, mb2, bt, rfl, hf, hfb⟩, c5⟩
 have w := w.add (e := frE bs mb2 bt (.func (.func 232) #[] #[ptr b5]) []) c5 hf (fun b hb => hfb b (by simpa [frE, En.fp] using hb))
 refine w.ldc 3 rfl rfl ?_
 have hac := (p.args _ (x.base w)).len.2
 refine Ai (by decide) (Ai (by simp only [List.length_cons]; omega) (Ai (by omega) ?_))
 refine sl_slc (lo := 1) (hi := (k0 :: l).length) encS_len (p.args _ (x.base w)) (by simp) (Nat.le_refl _) fun v1 hv1 => ?_
 have e1 : ((k0 :: l).drop 1).take ((k0 :: l).length - 1) = l := by simp
 rw [e1] at hv1
 have hsl : ∀ {h'}, Chg [] h0 h' → SL encS h' v1 l := fun hc => hv1 _ (p.args _ hc)
 clear hv1
 obtain ⟨va, vc, rfl, _⟩ := (hsl (Chg.refl _)).form
 obtain ⟨vb, vo, rfl⟩ := (hsl (Chg.refl _)).addr (by omega)
 obtain ⟨th2, hth2⟩ : ∃ th2 : ByteArray → Bool, th2 = fun s => !th s := ⟨_, rfl⟩
 have tc2 := tc_away (b1 := b5) tc
 rw [show hereL th l = newL th2 [] l by rw [hth2]; rfl]
 rw [← hth2] at tc2
 refine loop_intro (fun q : Nat × Nat × Value => [(0, ptr ab), (1, .int .i64 op), (6, ptr b6), (7, .int .i64 q.2.1), (8, .func (.func 228) #[] #[ptr bs, ptr bt]), (17, .slice (some ⟨vb, vo, none⟩) l.length vc), (18, .int .i64 l.length), (19, .int .i64 q.1)])
  (fun q h' => (q.1 ≤ l.length ∧ q.2.1 = (newL th2 [] (l.take q.1)).length) ∧ St (cE ab kb now (.slice (some ⟨ba, oa, none⟩) (k0 :: l).length ac) key t is pv lw rv nilV []).fp h h' [frE bs mb2 bt (.func (.func 232) #[] #[ptr b5]) (l.take q.1), .b b6 [.int .i64 0, .int .i64 0, .string ⟨#[]⟩, .slice none 0 0], .b b5 [.func (.func fg) ffi fcap],
   cE ab kb now (.slice (some ⟨ba, oa, none⟩) (k0 :: l).length ac) key t is pv lw rv q.2.2 ((newL th2 [] (l.take q.1)).map fun n => ⟨op, key, n, noText, 0⟩)])
  (fun q => l.length - q.1) (0, 0, nilV) ⟨rfl, rfl, rfl, rfl, rfl, rfl, rfl, rfl, trivial⟩ ⟨⟨Nat.zero_le _, rfl⟩, w⟩ ?_
 rintro ⟨q, n, lv⟩ h6 ⟨⟨hq, hn0⟩, w⟩
 replace hq : q ≤ l.length := hq
 replace hn0 : n = (newL th2 [] (l.take q)).length := hn0
 have hnq : n ≤ q := by
  have h1 := newL_len (th := th2) (l := l.take q) (pre := [])
  rw [List.length_take] at h1
  omega
 refine Ai rfl (Ai (fun hlt => ?_) (fun hge => ?_))
 ·have hlt : q < l.length := by omega
  have htk := List.take_succ_eq_append_getElem hlt
  obtain ⟨s, hs⟩ : ∃ s, s = l[q] := ⟨_, rfl⟩
  rw [← hs] at htk
  refine sl_ix (s := s) (hsl (x.base w)) q rfl (by rw [hs]; exact List.getElem?_eq_getElem hlt) ?_
  refine w.fresh 0 3 rfl rfl (by decide) tc2 (fun h9 c9 => ⟨fr_box w 0 2 rfl rfl (by decide) h9 c9, hZ h9 (w.set (e' := En.nil) 0 rfl c9 (fun b hb => .inl (by simp at hb; simp [frE, En.fp, hb])) trivial (fun b hb => (nomatch (show b ∈ ([] : List Nat) from hb)))).chg⟩) (by rw [List.length_take]; omega) fun h7 w => ?_
  rw [← htk] at w
  obtain ⟨bb, hbb⟩ : ∃ bb, bb = (!th2 s && decide (s ∉ l.take q)) := ⟨_, rfl⟩
  have hsn := newL_snoc (th := th2) hlt
  rw [← hs, ← hbb] at hsn
  have hcnt := newL_cnt (th := th2) hlt (b := bb) (by rw [← hs]; exact hbb)
  rw [← hbb]
  cases bb with
  |true =>
   refine Ai rfl (fun z hz => ?_)
   have hz := add_in hz (by simp only; omega) (by simp only; omega)
   subst hz
   refine sub9_go (i := 3) x w rfl (fun x => take9_calls ⟨op, noText, s, noText, 0⟩ x (by rw [List.length_map]; simp only; omega)) ?_ ?_
   rotate_left
   ·rintro why h8 hB
    exact hB.elim
   rintro _ h8 _ ⟨lv8, rfl⟩ w
   have hm : (newL th2 [] (l.take q)).map (fun n => (⟨op, key, n, noText, 0⟩ : Eff)) ++ [⟨op, key, s, noText, 0⟩] = (newL th2 [] (l.take (q + 1))).map fun n => ⟨op, key, n, noText, 0⟩ := by
    rw [hsn, if_pos rfl, List.map_append]; rfl
   have w := (show St _ _ _ [_, _, _, cE ab kb now (.slice (some ⟨ba, oa, none⟩) (k0 :: l).length ac) key t is pv lw rv lv8 ((newL th2 [] (l.take q)).map (fun n => (⟨op, key, n, noText, 0⟩ : Eff)) ++ [⟨op, key, s, noText, 0⟩])] from w)
   rw [hm] at w
   refine Ai rfl (fun z hz => ?_)
   have hz := add_in hz (by simp only; omega) (by simp only; omega)
   subst hz
   exact Ai rfl (Ei (q + 1, n + 1, lv8) (Ai ⟨rfl, rfl, rfl, rfl, rfl, rfl, rfl, rfl, trivial⟩ (Ai ⟨⟨hlt, by rw [hcnt, hn0]; rfl⟩, w⟩ (by simp only; omega))))
  |false =>
   have hm : newL th2 [] (l.take q) = newL th2 [] (l.take (q + 1)) := by rw [hsn, if_neg (by decide), List.append_nil]
   have w := (show St _ _ _ [_, _, _, cE ab kb now (.slice (some ⟨ba, oa, none⟩) (k0 :: l).length ac) key t is pv lw rv lv ((newL th2 [] (l.take q)).map (fun n => (⟨op, key, n, noText, 0⟩ : Eff)))] from w)
   rw [hm] at w
   refine Ai rfl (fun z hz => ?_)
   have hz := add_in hz (by simp only; omega) (by simp only; omega)
   subst hz
   exact Ai rfl (Ei (q + 1, n, lv) (Ai ⟨rfl, rfl, rfl, rfl, rfl, rfl, rfl, rfl, trivial⟩ (Ai ⟨⟨hlt, by rw [hcnt, hn0]; rfl⟩, w⟩ (by simp only; omega))))
 ·have hkl : q = l.length := by omega
  subst hkl
  rw [List.take_length] at w hn0
  refine w.callv number9_calls fun h7 w => ?_
  refine w.st1 1 rfl rfl rfl rfl fun h8 w => ?_
  exact ⟨_, rfl, cells_blk (w.get 1 rfl), by rw [hn0]; rfl, lv, x.out w 3 rfl⟩
theorem no_away {f : ByteArray → List ByteArray → Thing → Res} {g : List ByteArray → Res} (h : NoB S now A 2 65536 kd why) (hg : ∀ key l, g (key :: l) = if 1 ≤ l.length ∧ l.length < 65536 then kindly S now kd key (f key l) else .error wArgs) (hn : g [] = .error wArgs) : g A = .error why := by
 match A, h with
 |[], .inl ⟨_, e⟩ => rw [hn, e]
 |[], .inr ⟨hb, _⟩ => simp at hb
 |key :: l, .inl ⟨hb, e⟩ =>
  rw [hg, e, if_neg]
  intro hh
  exact hb ⟨by simp; omega, by simp; omega⟩
 |key :: l, .inr ⟨hb, k0, hk0, hk, e⟩ =>
  cases hk0
  simp at hb
  rw [hg, e, if_pos ⟨by omega, by omega⟩, kindly_no hk]
end
end Go.Proofs.YtjnijlnmbjjgpaaGreatDoor
namespace Go.Proofs.YtjnijlnmbjjgpaaGreatDoor
open Go Go.Sx C
section
variable {h0 h h1 h2 h' : Heap} {ab kb sb mb c b2 : Nat} {now op at_ : Int} {av : Value} {A : List ByteArray} {m : List KI} {S : Space} {res : Res}
end
end Go.Proofs.YtjnijlnmbjjgpaaGreatDoor
namespace Go.Proofs.YtjnijlnmbjjgpaaGreatDoor
open Go Go.Sx C
theorem newL_at {th : ByteArray → Bool} {l : List ByteArray} {q : Nat} (hq : q < l.length) (hb : (!th l[q] && decide (l[q] ∉ l.take q)) = true) : (newL th [] l)[(newL th [] (l.take q)).length]? = some l[q] := by
 have e1 := newL_app (th := th) (a := l.take (q + 1)) (b := l.drop (q + 1)) (pre := [])
 rw [List.take_append_drop, newL_snoc hq, if_pos hb] at e1
 rw [e1, List.append_assoc, List.getElem?_append_right (Nat.le_refl _), Nat.sub_self]
 rfl
section
variable {h0 h h1 h2 h' : Heap} {ab kb sb mb c b1 b2 bs bt mb2 : Nat} {now op kd : Int} {av lv pv lw rv fv v : Value} {key why : ByteArray} {t : Thing} {is : Bool} {A l pre : List ByteArray} {L : List Eff} {m : List KI} {S : Space} {M : List En} {T : List Nat} {res : Res} {th : ByteArray → Bool} {Z : Heap → Prop}
theorem set_sorted (hi : InS S) (hk : okK 4 (getS S key now) = true) : ((getS S key now).getD zeroT).list.Pairwise fun a b => sless a b = true := by
 cases hg : getS S key now with
 |none => exact List.Pairwise.nil
 |some t =>
  rw [hg] at hk
  exact (hi _ (getS_mem hg)).good.ls (of_decide_eq_true hk)
theorem NoB.as {f : ByteArray → List ByteArray → Thing → Res} {g : List ByteArray → Res} (h : NoB S now A 2 65536 kd why) (hg : ∀ key l, g (key :: l) = if 1 ≤ l.length ∧ l.length < 65536 then kindly S now kd key (f key l) else .error wArgs) (hn : g [] = .error wArgs) : g A = .error why := no_away h hg hn
set_option maxHeartbeats 1000000 in
theorem sadd9 (p : P9 h0 kb sb mb c m S av A) (hs9 : S9 S) (hi : InS S) (hA : ∀ a ∈ A, a.size < 281474976710656) (x : As h0 h (c0 ab kb now av)) : CallsH Tryz.prog 95 [ptr ab] h (Cmd9 h0 h ab kb now av (cSadd S now A)) := by
 refine f95_calls (by simp) ?_
 intro b2 h1 g1
 have w := x.st.new g1
 refine sub9_go (i := 1) x w rfl (fun x => begin9_calls p (by decide) x) ?_ ?_
 rotate_left
 ·rintro why h2 hB c2
  exact bad9 (NoB.as (f := fun key l t => if newL (thereL t.list) [] l = [] then .ok (numR 0, []) else makes S now key (t.list.length + (newL (thereL t.list) [] l).length) ((newL (thereL t.list) [] l).all small) (numR (newL (thereL t.list) [] l).length) ((newL (thereL t.list) [] l).map (addE key))) hB (fun _ _ => rfl) rfl) c2
 rintro _ h2 _ ⟨hb, k0, hk0, hk, p2, w2, r2, rfl⟩ w
 obtain ⟨k9, l, rfl⟩ := cons_of (by decide) hb.1
 cases hk0
 obtain ⟨ba, oa, ac, rfl⟩ := p.argF (by simp)
 have hlc : (k0 :: l).length = l.length + 1 := rfl
 have hc9 : 1 ≤ l.length ∧ l.length < 65536 := ⟨by omega, by omega⟩
 have htl := (hs9.get k0 now).ls
 have hso := set_sorted hi hk
 have hk9 := hA k0 (by simp)
 have he : cSadd S now (k0 :: l) = _ := (if_pos hc9).trans (kindly_ok hk)
 generalize (getS S k0 now).getD zeroT = t at *
 obtain ⟨la, lc, rfl, _⟩ := (w.thc 1 rfl).2.1.form
 obtain ⟨ns, hns⟩ : ∃ ns, ns = newL (thereL t.list) [] l := ⟨_, rfl⟩
 obtain ⟨D, hDe⟩ : ∃ D, D = ns.map (addE k0) := ⟨_, rfl⟩
 have he : cSadd S now (k0 :: l) = if ns = [] then .ok (numR 0, []) else makes S now k0 (t.list.length + ns.length) (ns.all small) (numR ns.length) D := by rw [he, hDe, hns]
 have hDl : D.length = ns.length := by rw [hDe]; exact List.length_map _
 have hnsl : ns.length ≤ l.length := by rw [hns]; exact newL_len
 refine call_ret fresh9_calls ?_
 rintro _ h5 ⟨⟨bs, mb2, bt, rfl, hf, hfb⟩, c5⟩
 have w := w.add (e := frE bs mb2 bt (.func (.func 172) #[ptr ab] #[]) []) c5 hf (fun b hb => hfb b (by simpa [frE, En.fp] using hb))
 refine w.ldc 2 rfl rfl ?_
 have hac := (p.args _ (x.base w)).len.2
 refine Ai (by decide) (Ai (by simp only [List.length_cons]; omega) (Ai (by omega) ?_))
 refine sl_slc (lo := 1) (hi := (k0 :: l).length) encS_len (p.args _ (x.base w)) (by simp) (Nat.le_refl _) fun v1 hv1 => ?_
 have e1 : ((k0 :: l).drop 1).take ((k0 :: l).length - 1) = l := by simp
 rw [e1] at hv1
 have hsl : ∀ {h'}, Chg [] h0 h' → SL encS h' v1 l := fun hc => hv1 _ (p.args _ hc)
 clear hv1
 obtain ⟨va, vc, rfl, _⟩ := (hsl (Chg.refl _)).form
 obtain ⟨vb, vo, rfl⟩ := (hsl (Chg.refl _)).addr (by omega)
 refine loop_intro (fun q : Nat × Nat × Value => [(0, ptr ab), (2, ptr b2), (3, .int .i64 q.2.1), (4, .func (.func 228) #[] #[ptr bs, ptr bt]), (16, .slice (some ⟨vb, vo, none⟩) l.length vc), (17, .int .i64 l.length), (18, .int .i64 q.1)])
  (fun q h' => (q.1 ≤ l.length ∧ q.2.1 = (newL (thereL t.list) [] (l.take q.1)).length ∧ q.2.1 ≤ ns.length ∧ (0 < q.2.1 → ((t.list.length : Int) + q.2.1 ≤ 65536 ∧ k0.size ≤ 1048576)) ∧ (newL (thereL t.list) [] (l.take q.1)).all small = true) ∧
   St (c0 ab kb now (.slice (some ⟨ba, oa, none⟩) (k0 :: l).length ac)).fp h h' [frE bs mb2 bt (.func (.func 172) #[ptr ab] #[]) (l.take q.1), .b b2 [.int .i64 0, .int .i64 0, .string ⟨#[]⟩, .slice none 0 0],
    cE ab kb now (.slice (some ⟨ba, oa, none⟩) (k0 :: l).length ac) k0 t (getS S k0 now).isSome p2 (.slice la t.list.length lc) r2 q.2.2 (accE S k0 now D q.2.1)])
  (fun q => l.length - q.1) (0, 0, nilV) ⟨rfl, rfl, rfl, rfl, rfl, rfl, rfl, trivial⟩ ⟨⟨Nat.zero_le _, rfl, Nat.zero_le _, fun h9 => absurd h9 (by simp), rfl⟩, w⟩ ?_
 rintro ⟨q, n, lv⟩ h6 ⟨⟨hq, hn0, hnn, hfits, hsm⟩, w⟩
 replace hq : q ≤ l.length := hq
 replace hn0 : n = (newL (thereL t.list) [] (l.take q)).length := hn0
 replace hnn : n ≤ ns.length := hnn
 replace hfits : 0 < n → ((t.list.length : Int) + n ≤ 65536 ∧ k0.size ≤ 1048576) := hfits
 replace hsm : (newL (thereL t.list) [] (l.take q)).all small = true := hsm
 refine Ai rfl (Ai (fun hlt => ?_) (fun hge => ?_))
 ·have hlt : q < l.length := by omega
  have htk := List.take_succ_eq_append_getElem hlt
  obtain ⟨s, hs⟩ : ∃ s, s = l[q] := ⟨_, rfl⟩
  rw [← hs] at htk
  have hsl9 : s ∈ l := by rw [hs]; exact List.getElem_mem hlt
  have hsz := hA s (by simp [hsl9])
  refine sl_ix (s := s) (hsl (x.base w)) q rfl (by rw [hs]; exact List.getElem?_eq_getElem hlt) ?_
  refine w.fresh 0 2 rfl rfl (by decide) (tc_member (by omega) hso) (fun _ _ => trivial) (by rw [List.length_take]; omega) fun h7 w => ?_
  rw [← htk] at w
  obtain ⟨bb, hbb⟩ : ∃ bb, bb = (!thereL t.list s && decide (s ∉ l.take q)) := ⟨_, rfl⟩
  have hsn := newL_snoc (th := thereL t.list) hlt
  rw [← hs, ← hbb] at hsn
  have hcnt := newL_cnt (th := thereL t.list) hlt (b := bb) (by rw [← hs]; exact hbb)
  rw [← hbb]
  cases bb with
  |true =>
   have hat := newL_at (th := thereL t.list) hlt (by rw [← hs]; exact hbb.symm)
   rw [← hs, ← hns, ← hn0] at hat
   have hnlt : n < ns.length := (List.getElem?_eq_some_iff.1 hat).1
   have hsns : s ∈ ns := List.mem_of_getElem? hat
   have hD : D[n]? = some { (⟨12, noText, s, noText, 0⟩ : Eff) with key := k0 } := by rw [hDe, List.getElem?_map, hat]; rfl
   have hcnt : (newL (thereL t.list) [] (l.take (q + 1))).length = n + 1 := by rw [hcnt, hn0]; rfl
   have hal := acc_len (S := S) (key := k0) (now := now) D n (by omega)
   have hne : ns ≠ [] := fun e => by rw [e] at hnlt; simp at hnlt
   refine Ai rfl (fun z hz => ?_)
   have hz := add_in hz (by simp only; omega) (by simp only; omega)
   subst hz
   refine w.ldc 2 rfl rfl ?_
   refine Ai rfl (fun z hz => ?_)
   have hz : z = (t.list.length : Int) + (n + 1 : Nat) := hz.trans (wrap_in (by simp only; omega) (by simp only; omega))
   subst hz
   refine sub9_go (i := 2) x w rfl (fun x => put9_calls p ⟨12, noText, s, noText, 0⟩ x (by simp only; omega) (by omega) (by show s.size < _; omega) (by show noText.size < _; decide)) ?_ ?_
   rotate_left
   ·rintro why h8 ⟨hB, rfl⟩ c8
    refine bad9 (he.trans ((if_neg hne).trans (mkNo9 ?_))) c8
    rintro ⟨m1, m2, m3⟩
    exact hB ⟨by omega, m2, small_of9 m3 hsns, by show noText.size ≤ _; decide⟩
   rintro _ h8 _ ⟨hfit, lv8, rfl⟩ w
   rw [acc_put hD] at w
   refine Ai rfl (fun z hz => ?_)
   have hz := add_in hz (by simp only; omega) (by simp only; omega)
   subst hz
   refine Ai rfl (Ei (q + 1, n + 1, lv8) (Ai ⟨rfl, rfl, rfl, rfl, rfl, rfl, rfl, trivial⟩ (Ai ⟨⟨hlt, by rw [hcnt], hnlt, fun _ => ⟨?_, hfit.2.1⟩, ?_⟩, w⟩ (by simp only; omega))))
   ·have := hfit.1
    push_cast at this ⊢
    omega
   ·rw [hsn, if_pos rfl, List.all_append, hsm]
    simp [small]
    exact hfit.2.2.1
  |false =>
   have hcnt : (newL (thereL t.list) [] (l.take (q + 1))).length = n := by rw [hcnt, hn0]; rfl
   refine Ai rfl (fun z hz => ?_)
   have hz := add_in hz (by simp only; omega) (by simp only; omega)
   subst hz
   exact Ai rfl (Ei (q + 1, n, lv) (Ai ⟨rfl, rfl, rfl, rfl, rfl, rfl, rfl, trivial⟩ (Ai ⟨⟨hlt, by rw [hcnt], hnn, hfits, by rw [hsn, if_neg (by decide), List.append_nil]; exact hsm⟩, w⟩ (by simp only; omega))))
 ·have hkl : q = l.length := by omega
  subst hkl
  rw [List.take_length, ← hns] at hn0 hsm
  refine w.callv number9_calls fun h7 w => ?_
  refine w.st1 1 rfl rfl rfl rfl fun h8 w => ?_
  subst hn0
  refine fin9 x w 1 2 rfl rfl ?_
  by_cases hne : ns = []
  ·rw [he, if_pos hne]
   have hD0 : D = [] := List.eq_nil_of_length_eq_zero (by rw [hDl, hne]; rfl)
   rw [hD0, hne]
   rfl
  ·have hD9 : D ≠ [] := fun e => hne (List.eq_nil_of_length_eq_zero (by rw [← hDl, e]; rfl))
   have hpos : 0 < ns.length := List.length_pos_iff.2 hne
   rw [he, if_neg hne, mkOk9 ⟨(hfits hpos).1, (hfits hpos).2, hsm⟩]
   have := acc_all (S := S) (key := k0) (now := now) hD9
   rw [hDl] at this
   rw [show accE S k0 now D (l.length, ns.length, lv).2.1 = dropsS S k0 now ++ D from this]
   rfl
theorem srem9 (p : P9 h0 kb sb mb c m S av A) (hs9 : S9 S) (hi : InS S) (x : As h0 h (c0 ab kb now av)) : CallsH Tryz.prog 96 [ptr ab] h (Cmd9 h0 h ab kb now av (cSrem S now A)) := by
 refine f96_calls (by simp) ?_
 intro b2 h2 g2
 have w := x.st.new g2
 refine sub9_go (i := 1) x w rfl (fun x => begin9_calls p (by decide) x) ?_ ?_
 rotate_left
 ·rintro why h2 hB c2
  exact bad9 (no_away (f := fun key l t => .ok (numR (hereL (thereL t.list) l).length, (hereL (thereL t.list) l).map (removeE key))) hB (fun _ _ => rfl) rfl) c2
 rintro _ h3 _ ⟨hb, k0, hk0, hk, p2, w2, r2, rfl⟩ w
 obtain ⟨k9, l, rfl⟩ := cons_of (by decide) hb.1
 cases hk0
 have hlc : (k0 :: l).length = l.length + 1 := rfl
 have hc9 : 1 ≤ l.length ∧ l.length < 65536 := ⟨by omega, by omega⟩
 have htl := (hs9.get k0 now).ls
 have hso := set_sorted hi hk
 have he : cSrem S now (k0 :: l) = _ := (show cSrem S now (k0 :: l) = if 1 ≤ l.length ∧ l.length < 65536 then kindly S now 4 k0 (fun t => .ok (numR (hereL (thereL t.list) l).length, (hereL (thereL t.list) l).map (removeE k0))) else .error wArgs from rfl).trans ((if_pos hc9).trans (kindly_ok hk))
 generalize (getS S k0 now).getD zeroT = t at *
 refine call_ret (away9_calls p hc9 (x.out w 1 rfl).1 (tc_member (by omega) hso) (fun _ _ => trivial)) ?_
 rintro _ h5 ⟨rfl, lv5, _, o5⟩
 have w := w.own 1 rfl o5
 refine w.st1 0 rfl rfl rfl rfl fun h6 w => ?_
 exact fin9 x w 0 1 rfl rfl he
theorem truth9_calls {b : Bool} : CallsH Tryz.prog 173 [.bool b] h (Ret fun r h' => r = repV 3 (if b = true then 1 else 0) noText ∧ Chg [] h h') := by
 refine f173_calls (by simp) ?_
 intro b1 h1 g1
 have w := (St.start h).new g1
 cases b with
 |true =>
  refine w.callv number9_calls fun h2 w => ?_
  refine w.st1 0 rfl rfl rfl rfl fun h3 w => ?_
  exact ⟨_, rfl, cells_blk (w.get 0 rfl), rfl, w.chg⟩
 |false =>
  refine w.callv number9_calls fun h2 w => ?_
  refine w.st1 0 rfl rfl rfl rfl fun h3 w => ?_
  exact ⟨_, rfl, cells_blk (w.get 0 rfl), rfl, w.chg⟩
theorem sis9 (p : P9 h0 kb sb mb c m S av A) (hs9 : S9 S) (hi : InS S) (x : As h0 h (c0 ab kb now av)) : CallsH Tryz.prog 97 [ptr ab] h (Cmd9 h0 h ab kb now av (cSis S now A)) := by
 refine f97_calls (by simp) ?_
 intro b2 h1 g1
 have w := x.st.new g1
 refine sub9_go (i := 1) x w rfl (fun x => begin9_calls p (by decide) x) ?_ ?_
 rotate_left
 ·rintro why h2 hB c2
  exact bad9 (NoB.a2 (f := fun _ n t => .ok (numR (if thereL t.list n = true then 1 else 0), [])) hB) c2
 rintro _ h2 _ ⟨hb, k0, hk0, hk, p2, w2, r2, rfl⟩ w
 obtain ⟨k9, n, rfl⟩ := two_arg hb
 cases hk0
 have he : cSis S now [k0, n] = _ := (show cSis S now [k0, n] = kindly S now 4 k0 (fun t => .ok (numR (if thereL t.list n = true then 1 else 0), [])) from rfl).trans (kindly_ok hk)
 have htl := (hs9.get k0 now).ls
 have hso := set_sorted hi hk
 generalize (getS S k0 now).getD zeroT = t at *
 obtain ⟨b, o, cc, rfl⟩ := p.argF (by simp)
 refine w.ldc 1 rfl rfl ?_
 refine p.ix (x.base w) 1 rfl rfl ?_
 refine w.callv (member9_calls (w.get 1 rfl) (by omega) hso) fun h3 w => ?_
 refine w.callv truth9_calls fun h4 w => ?_
 refine w.st1 0 rfl rfl rfl rfl fun h5 w => ?_
 exact fin9 x w 0 1 rfl rfl he
theorem scard9 (p : P9 h0 kb sb mb c m S av A) (x : As h0 h (c0 ab kb now av)) : CallsH Tryz.prog 98 [ptr ab] h (Cmd9 h0 h ab kb now av (cScard S now A)) := by
 refine f98_calls (by simp) ?_
 intro b2 h1 g1
 have w := x.st.new g1
 refine sub9_go (i := 1) x w rfl (fun x => begin9_calls p (by decide) x) ?_ ?_
 rotate_left
 ·rintro why h2 hB c2
  exact bad9 (NoB.a1 (f := fun _ t => .ok (numR t.list.length, [])) hB) c2
 rintro _ h2 _ ⟨hb, k0, hk0, hk, p2, w2, r2, rfl⟩ w
 obtain ⟨k9, rfl⟩ := one_arg hb
 cases hk0
 obtain ⟨la, lc, rfl, _⟩ := (w.thc 1 rfl).2.1.form
 refine w.ldc 1 rfl rfl ?_
 refine w.callv number9_calls fun h3 w => ?_
 refine w.st1 0 rfl rfl rfl rfl fun h4 w => ?_
 have he : cScard S now [k0] = _ := (show cScard S now [k0] = kindly S now 4 k0 (fun t => .ok (numR t.list.length, [])) from rfl).trans (kindly_ok hk)
 exact fin9 x w 0 1 rfl rfl he
theorem smem9 (p : P9 h0 kb sb mb c m S av A) (hs9 : S9 S) (x : As h0 h (c0 ab kb now av)) : CallsH Tryz.prog 99 [ptr ab] h (Cmd9 h0 h ab kb now av (cSmem S now A)) := by
 refine f99_calls (by simp) ?_
 intro b2 h1 g1
 have w := x.st.new g1
 refine sub9_go (i := 1) x w rfl (fun x => begin9_calls p (by decide) x) ?_ ?_
 rotate_left
 ·rintro why h2 hB c2
  exact bad9 (NoB.a1 (f := fun _ t => .ok (listR t.list, [])) hB) c2
 rintro _ h2 _ ⟨hb, k0, hk0, hk, p2, w2, r2, rfl⟩ w
 obtain ⟨k9, rfl⟩ := one_arg hb
 cases hk0
 have htl := (hs9.get k0 now).ls
 have he : cSmem S now [k0] = _ := (show cSmem S now [k0] = kindly S now 4 k0 (fun t => .ok (listR t.list, [])) from rfl).trans (kindly_ok hk)
 generalize (getS S k0 now).getD zeroT = t at *
 have hsv := (w.thc 1 rfl).2.1
 obtain ⟨la, lc, rfl, _⟩ := hsv.form
 refine w.ldc 1 rfl rfl ?_
 refine call_ret (listStr_calls hsv (by omega)) ?_
 rintro _ h5 ⟨⟨ra, rn, rc, rfl, ol, fr⟩, c5⟩
 have hz := w.size
 have w := w.add (e := .o encQ 4 (.slice ra rn rc) _) c5 ol fr
 refine w.st1 1 rfl rfl rfl rfl fun h6 w => ?_
 refine finl9 x w 1 2 0 rfl rfl rfl (fun b hb => by have := fr b hb; omega) ?_
 rw [he]
 simp [listR, qs, toQ]
end
end Go.Proofs.YtjnijlnmbjjgpaaGreatDoor
namespace Go.Proofs.YtjnijlnmbjjgpaaGreatDoor.K5
open Go Go.Sx Go.Proofs.YtjnijlnmbjjgpaaGreatDoor C
def TabH (h : Heap) : Prop := ∀ i < 64, ∃ v : Int, 0 ≤ v ∧ v ≤ 255 ∧ cell h 3 i = some (.int .u8 v)
end Go.Proofs.YtjnijlnmbjjgpaaGreatDoor.K5
namespace Go.Proofs.YtjnijlnmbjjgpaaGreatDoor.K5
open Go Go.Sx Go.Proofs.YtjnijlnmbjjgpaaGreatDoor C
theorem TabH.chg {S : List Nat} {h h' : Heap} (ht : TabH h) (hc : Chg S h h') (hn : 3 ∉ S) : TabH h' := fun i hi =>
 let ⟨v, h0, h1, h2⟩ := ht i hi
 ⟨v, h0, h1, cell_chg h2 hc hn⟩
end Go.Proofs.YtjnijlnmbjjgpaaGreatDoor.K5
namespace Go.Proofs.YtjnijlnmbjjgpaaGreatDoor.K5
open Go Go.Sx Go.Proofs.YtjnijlnmbjjgpaaGreatDoor C
end Go.Proofs.YtjnijlnmbjjgpaaGreatDoor.K5
namespace Go.Proofs.YtjnijlnmbjjgpaaGreatDoor
open Go Go.Sx C
namespace K5
end K5
section
variable {h0 h h1 h2 h' : Heap} {ab kb sb mb c b1 b2 bs bt mb2 : Nat} {now op kd : Int} {av lv pv lw rv fv v : Value} {key why n s : ByteArray} {t : Thing} {is : Bool} {A l pre : List ByteArray} {L : List Eff} {m : List KI} {S : Space} {M : List En} {T : List Nat} {res : Res} {th : ByteArray → Bool} {Z : Heap → Prop}
theorem tab9 (ht : K5.TabH h) (hc : Chg [] h h') : K5.TabH h' := ht.chg hc (by simp)
end
end Go.Proofs.YtjnijlnmbjjgpaaGreatDoor
namespace Go.Proofs.YtjnijlnmbjjgpaaGreatDoor
open Go Go.Sx C
namespace SI
def keysHeap (h : Heap) (mb : Nat) : Heap := h.push (.cells #[.map (some mb)] 189)
theorem keysHeap_chg (h : Heap) (mb : Nat) : Chg [] h (keysHeap h mb) := by
 refine ⟨by simp [keysHeap], fun k hk _ => ?_⟩
 unfold keysHeap
 rw [Array.getElem?_push, if_neg (by omega)]
theorem mKeys_calls {h : Heap} {mb : Nat} : CallsH Tryz.prog 174 [.map (some mb)] h (Ret fun r h' => r = .func (.func 236) #[] #[ptr h.size] ∧ h' = keysHeap h mb) := by
 refine ⟨by kernel_rfl, fun w hw => ?_⟩
 refine ((callsIn_wide (n := 5)).1 (Tryz.maps_Keys_174 (some mb) w)).mono ?_
 rintro e w' ⟨rfl, rfl⟩
 refine ⟨?_, by simp, rfl, rfl, rfl⟩
 subst hw
 exact ⟨rfl, rfl⟩
structure MK (h : Heap) (mb c : Nat) (ms : List MapEntry) (ks : List ByteArray) : Prop where
 map : MapB h mb ms c
 keys : ms.map (·.key) = ks.map Value.string
 small : ∀ k ∈ ks, k.size ≤ 1048576
 len : ms.length ≤ 65536
 born : ∀ e ∈ ms, e.born < c
 borns : (ms.map (·.born)).Nodup
 nodup : ks.Nodup
theorem MK.key {h : Heap} {mb c : Nat} {ms : List MapEntry} {ks : List ByteArray} (x : MK h mb c ms ks) : ∀ e ∈ ms, ∃ k ∈ ks, e.key = .string k ∧ k.size ≤ 1048576 := by
 intro e he
 have : e.key ∈ ms.map (·.key) := List.mem_map.2 ⟨e, he, rfl⟩
 rw [x.keys] at this
 obtain ⟨k, hk, e2⟩ := List.mem_map.1 this
 exact ⟨k, hk, e2.symm, x.small k hk⟩
theorem own_of {w : World} {mb c : Nat} {ms : List MapEntry} {ks : List ByteArray} (x : MK w.heap mb c ms ks) : w.ownsMap Tryz.prog 9 RN mb ms.length (.map ((((⟨ms⟩ : Array MapEntry)).toList.map (Go.WideElems.rg Tryz.prog 9 RN)).foldr DataW.insert []) : DataW Unit) := by
 have hl := x.len
 refine ⟨⟨ms⟩, c, x.map, ⟨?_, ⟨?_, ?_, ?_⟩, ?_⟩, by simp, rfl⟩
 ·have : (65536 : Nat) ≤ maxLen := by decide
  simp; omega
 ·exact x.born
 ·exact x.borns
 ·show (ms.map (·.key)).Nodup
  rw [x.keys]
  exact List.Pairwise.map Value.string (fun a b (hab : a ≠ b) => fun he => hab (by simpa using he)) x.nodup
 ·intro e he
  obtain ⟨k, _, hk, hs⟩ := x.key e he
  refine ⟨(.string (bytesL k), .nil), ?_⟩
  unfold Go.WideElems.rd
  rw [hk, key_reads _ hs]
  rfl
theorem strKeys_perm {h : Heap} {mb c : Nat} {ms : List MapEntry} {ks : List ByteArray} (x : MK h mb c ms ks) : (strKeys (.map ((((⟨ms⟩ : Array MapEntry)).toList.map (Go.WideElems.rg Tryz.prog 9 RN)).foldr DataW.insert []) : DataW Unit)).Perm (ks.map bytesL) := by
 unfold strKeys
 have h1 := Go.WideShapes.sorted_perm (((⟨ms⟩ : Array MapEntry)).toList.map (Go.WideElems.rg Tryz.prog 9 RN))
 refine (h1.map _).trans ?_
 rw [List.map_map]
 refine List.Perm.of_eq ?_
 have e : ks.map bytesL = (ks.map Value.string).map (fun v => match v with | .string s => bytesL s | _ => []) := by rw [List.map_map]; rfl
 rw [e, ← x.keys, List.map_map]
 refine List.map_congr_left fun i hi => ?_
 obtain ⟨k, _, hk, hs⟩ := x.key i hi
 simp only [Function.comp]
 unfold Go.WideElems.rg Go.WideElems.rd
 rw [hk, key_reads _ hs]
 rfl
theorem own_all {w : World} {mb c : Nat} {ms : List MapEntry} {ks : List ByteArray} (x : MK w.heap mb c ms ks) : ∃ D : DataW Unit, w.ownsMap Tryz.prog 9 RN mb ms.length D ∧ (strKeys D).Perm (ks.map bytesL) ∧ Go.Maps.size D = ms.length :=
 ⟨_, own_of x, strKeys_perm x, by rw [Go.Maps.size_eq, Go.length_sorted]; simp⟩
theorem sSorted_calls {h : Heap} {mb c : Nat} {ms : List MapEntry} {ks : List ByteArray} (x : MK h mb c ms ks) :
  CallsH Tryz.prog 119 [.func (.func 236) #[] #[ptr h.size]] (keysHeap h mb) (Ret fun r h' => ∃ L : List ByteArray, SL encS h' r L ∧ L.Perm ks ∧ L.Pairwise (fun a b => sless a b = true) ∧ (∀ b ∈ vblk r, h.size < b) ∧ Chg [] (keysHeap h mb) h') := by
 refine ⟨by kernel_rfl, fun w hw => ?_⟩
 let w0 : World := { w with heap := h }
 have ew : w0.alloc (.cells #[.map (some mb)] 189) = w := by
  show ({ w with heap := h.push _ } : World) = w
  rw [show h.push (.cells #[.map (some mb)] 189) = w.heap from hw.symm]
 have x0 : MK w0.heap mb c ms ks := x
 have hl := x.len
 obtain ⟨D, hown, hsk, hsz⟩ := own_all x0
 have h65 : (65536 : Nat) ≤ maxLen := by decide
 have key := Tryz.slices_Sorted_keys_119_174 (H := Unit) mb ms.length D RN w0 hown (by omega) (by omega)
 rw [ew] at key
 refine ((callsIn_wide (n := 5)).1 key).mono ?_
 rintro e w' ⟨v, ss, rfl, hp, hrow, hnil, hb⟩
 refine ⟨?_, by simp, hb.os, hb.output, hb.tape⟩
 have hperm : ss.Perm (ks.map bytesL) := hp.trans hsk
 have hms : (ss.mergeSort leB).Perm (ks.map bytesL) := (List.mergeSort_perm ss leB).trans hperm
 have tr : ∀ a b c : List UInt8, leB a b = true → leB b c = true → leB a c = true := fun a b c h1 h2 => by simp only [leB, decide_eq_true_eq] at *; exact List.le_trans h1 h2
 have to : ∀ a b : List UInt8, (leB a b || leB b a) = true := fun a b => by simp only [leB, Bool.or_eq_true, decide_eq_true_eq]; exact List.le_total a b
 have hpw : (ss.mergeSort leB).Pairwise (fun a b => leB a b = true) := List.pairwise_mergeSort tr to ss
 have hnd : (ss.mergeSort leB).Nodup := by
  refine hms.symm.nodup ?_
  exact List.Pairwise.map bytesL (fun a b (hab : a ≠ b) => fun he => hab (by cases a; cases b; simp_all [bytesL])) x.nodup
 have hsize : w.heap.size = h.size + 1 := by rw [hw]; simp [keysHeap]
 refine ⟨(ss.mergeSort leB).map ofL, ?_, ?_, ?_, ?_, ?_⟩
 ·-- the slice
  obtain ⟨hlen, hr⟩ := hrow
  have hsl : (ss.mergeSort leB).length = ss.length := (List.mergeSort_perm ss leB).length_eq
  rcases hr with ⟨rfl, hn⟩ | ⟨g, cap, cur, rfl, hg, hcur, hcap, hmax, hcs, htk⟩
  ·have : (ss.mergeSort leB).map ofL = [] := by rw [List.map_eq_nil_iff]; exact List.length_eq_zero_iff.1 (hsl.trans hn)
   rw [this]; exact SL.nil
  ·refine ⟨some ⟨g, 0, none⟩, cap, by rw [List.length_map, hsl], by rw [List.length_map, hsl]; exact hcap, ?_⟩
   intro i v hv
   have hfm : ∀ l : List (List UInt8), (l.map ofL).flatMap encS = l.map encStr := by
    intro l
    induction l with
    |nil => rfl
    |cons a l ih => rw [List.map_cons, List.flatMap_cons, ih]; rfl
   rw [hfm] at hv
   have htk' : cur.toList.take (ss.length * 1) = (ss.mergeSort leB).map encStr := htk
   rw [← htk'] at hv
   rw [Nat.zero_add]
   unfold Sx.cell
   rw [hcur]
   simp only
   rw [List.getElem?_take] at hv
   split at hv
   ·simpa using hv
   ·cases hv
 ·have : ks = (ks.map bytesL).map ofL := by rw [List.map_map]; exact (List.map_id' ks).symm
  rw [this]
  exact hms.map _
 ·refine List.Pairwise.map ofL (fun a b (hab : leB a b = true ∧ a ≠ b) => ?_) (hpw.and hnd)
  rw [sless_data, bl_lt]
  show a < b
  obtain ⟨h1, h2⟩ := hab
  simp only [leB, decide_eq_true_eq] at h1
  have hb : Op.bytesLess b a ≠ true := fun h => h1 ((bl_lt b a).1 h)
  rcases bl_total h2 with h | h
  ·exact (bl_lt a b).1 h
  ·exact absurd h hb
 ·intro b hb'
  obtain ⟨_, hr⟩ := hrow
  rcases hr with ⟨rfl, _⟩ | ⟨g, cap, cur, rfl, hg, _⟩
  ·simp [vblk, ablk] at hb'
  ·simp [vblk, ablk] at hb'
   subst hb'
   omega
 ·refine ⟨by rw [← hw]; exact hb.size, fun k hk _ => ?_⟩
  rw [← hw] at hk ⊢
  exact hb.block k hk
end SI
structure IM (ms : List MapEntry) (c : Nat) (ks : List ByteArray) (f : ByteArray → Nat) : Prop where
 keys : ms.map (·.key) = ks.map Value.string
 small : ∀ k ∈ ks, k.size ≤ 1048576
 born : ∀ e ∈ ms, e.born < c
 borns : (ms.map (·.born)).Nodup
 nodup : ks.Nodup
 val : ∀ k, (k ∉ ks ∧ mfind (.string k) ms 0 = none ∧ f k = 0) ∨ (k ∈ ks ∧ ∃ i, mfind (.string k) ms 0 = some (i, .int .i64 (f k)))
section
variable {ms : List MapEntry} {c : Nat} {ks : List ByteArray} {f : ByteArray → Nat} {k : ByteArray}
theorem IM.nil : IM [] 0 [] fun _ => 0 := ⟨rfl, by simp, by simp, List.nodup_nil, List.nodup_nil, fun k => .inl ⟨by simp, rfl, rfl⟩⟩
theorem IM.fits (x : IM ms c ks f) : ∀ e ∈ ms, fits .str e.key = true := fun e he => by
 have : e.key ∈ ms.map (·.key) := List.mem_map_of_mem he
 rw [x.keys] at this
 obtain ⟨k, _, e2⟩ := List.mem_map.1 this
 rw [← e2]; rfl
theorem IM.klen (x : IM ms c ks f) : ks.length = ms.length := by
 have := congrArg List.length x.keys
 simpa using this.symm
def bump (f : ByteArray → Nat) (k : ByteArray) : ByteArray → Nat := fun s => if s = k then f k + 1 else f s
theorem IM.put0 (x : IM ms c ks f) (hn : k ∉ ks) (h1 : mfind (.string k) ms 0 = none) (h0 : f k = 0) (hk : k.size ≤ 1048576) {n : Int} (e : n = 1) : IM (ms ++ [{ key := .string k, val := .int .i64 n, born := c }]) (c + 1) (ks ++ [k]) (bump f k) := by
 subst e
 refine ⟨by rw [List.map_append, List.map_append, x.keys]; rfl, fun k' hk' => ?_, fun e he => ?_, ?_, ?_, fun k' => ?_⟩
 ·rcases List.mem_append.1 hk' with h | h
  ·exact x.small k' h
  ·rw [List.mem_singleton.1 h]; exact hk
 ·rcases List.mem_append.1 he with h | h
  ·have := x.born e h; omega
  ·rw [List.mem_singleton.1 h]; exact Nat.lt_succ_self _
 ·rw [List.map_append, List.nodup_append]
  refine ⟨x.borns, by simp, fun a ha b hb => ?_⟩
  obtain ⟨e, he, rfl⟩ := List.mem_map.1 ha
  have := x.born e he
  simp at hb
  omega
 ·rw [List.nodup_append]
  exact ⟨x.nodup, by simp, fun a ha b hb e => hn (by simp at hb; rw [← hb, ← e]; exact ha)⟩
 ·rw [mfind_app x.fits h1]
  unfold bump
  by_cases h : k' = k
  ·rw [if_pos h, if_pos h]
   exact .inr ⟨by simp [h], 0 + ms.length, by rw [h0]; rfl⟩
  ·rw [if_neg h, if_neg h]
   rcases x.val k' with ⟨a, b, c⟩ | ⟨a, i, b⟩
   ·exact .inl ⟨by simp [a, h], b, c⟩
   ·exact .inr ⟨by simp [a], i, b⟩
theorem mod_map {α : Type} {g : MapEntry → α} {v : Value} (hg : ∀ e : MapEntry, g { e with val := v } = g e) : ∀ (ms : List MapEntry) (i : Nat), (ms.modify i fun e => { e with val := v }).map g = ms.map g := fun ms i => by
 refine List.ext_getElem? fun j => ?_
 rw [List.getElem?_map, List.getElem?_map, List.getElem?_modify]
 cases ms[j]? with
 |none => rfl
 |some e =>
  show some (g (if i = j then _ else e)) = some (g e)
  split
  ·rw [hg]
  ·rfl
theorem IM.put1 (x : IM ms c ks f) {i : Nat} (hm : k ∈ ks) (h1 : mfind (.string k) ms 0 = some (i, .int .i64 (f k))) {n : Int} (e : n = f k + 1) : IM (ms.modify i fun e => { e with val := .int .i64 n }) c ks (bump f k) := by
 subst e
 refine ⟨by rw [mod_map (g := MapEntry.key) fun _ => rfl]; exact x.keys, x.small, fun e he => ?_, by rw [mod_map (g := MapEntry.born) fun _ => rfl]; exact x.borns, x.nodup, fun k' => ?_⟩
 ·have hb : e.born ∈ (ms.modify i fun e => { e with val := .int .i64 (f k + 1) }).map (·.born) := List.mem_map_of_mem he
  rw [mod_map (g := MapEntry.born) fun _ => rfl] at hb
  obtain ⟨e2, he2, e3⟩ := List.mem_map.1 hb
  rw [← e3]; exact x.born e2 he2
 ·have h1' : mfind (.string k) ms 0 = some (0 + i, .int .i64 (f k)) := by rw [h1]; simp
  obtain ⟨m1, m2⟩ := mfind_mod (k' := k') (v := .int .i64 ((f k : Int) + 1)) x.fits h1'
  unfold bump
  by_cases h : k' = k
  ·rw [if_pos h]
   exact .inr ⟨by rw [h]; exact hm, 0 + i, m1 h⟩
  ·rw [if_neg h, m2 h]
   exact x.val k'
end
def stepF (f : ByteArray → Nat) (i : Nat) (l : List ByteArray) : ByteArray → Nat := fun s => if s ∈ l ∧ f s = i then i + 1 else f s
theorem stepF_nil {f : ByteArray → Nat} {i : Nat} : stepF f i [] = f := by
 funext s
 simp [stepF]
theorem stepF_yes {f : ByteArray → Nat} {i : Nat} {l : List ByteArray} {x : ByteArray} (hx : x ∉ l) (hf : f x = i) : bump (stepF f i l) x = stepF f i (l ++ [x]) := by
 funext s
 unfold bump stepF
 by_cases h : s = x
 ·subst h
  rw [if_pos rfl, if_neg (fun hh => hx hh.1), if_pos ⟨by simp, hf⟩, hf]
 ·rw [if_neg h]
  by_cases h2 : s ∈ l ∧ f s = i
  ·rw [if_pos h2, if_pos ⟨by simp [h2.1], h2.2⟩]
  ·rw [if_neg h2, if_neg]
   rintro ⟨h3, h4⟩
   simp [h] at h3
   exact h2 ⟨h3, h4⟩
theorem stepF_no {f : ByteArray → Nat} {i : Nat} {l : List ByteArray} {x : ByteArray} (hf : f x ≠ i) : stepF f i l = stepF f i (l ++ [x]) := by
 funext s
 unfold stepF
 by_cases h2 : s ∈ l ∧ f s = i
 ·rw [if_pos h2, if_pos ⟨by simp [h2.1], h2.2⟩]
 ·rw [if_neg h2, if_neg]
  rintro ⟨h3, h4⟩
  simp at h3
  rcases h3 with h3 | rfl
  ·exact h2 ⟨h3, h4⟩
  ·exact hf h4
theorem stepF_at {f : ByteArray → Nat} {i : Nat} {l : List ByteArray} {x : ByteArray} (hx : x ∉ l) : stepF f i l x = f x := if_neg fun h => hx h.1
theorem sorted_same {a b : List ByteArray} (ha : a.Pairwise fun x y => sless x y = true) (hb : b.Pairwise fun x y => sless x y = true) (h : ∀ s, s ∈ a ↔ s ∈ b) : a = b := by
 have na : a.Nodup := ha.imp fun h => sless_ne h
 have nb : b.Nodup := hb.imp fun h => sless_ne h
 refine List.Perm.eq_of_pairwise (le := fun x y => sless x y = true) (fun x y _ _ h1 h2 => ?_) ha hb ((List.perm_ext_iff_of_nodup na nb).2 h)
 exact absurd h2 (by rw [sless_no h1]; decide)
theorem sl_lt {h : Heap} {r : Value} {l : List ByteArray} (hs : SL encS h r l) (hne : l ≠ []) : ∀ b ∈ vblk r, b < h.size := by
 obtain ⟨a, c, rfl, hlc⟩ := hs.form
 have hp : 0 < l.length := List.length_pos_iff.2 hne
 obtain ⟨b, o, rfl⟩ := hs.addr hp
 intro b' hb'
 have hb' : b' = b := by simpa [vblk, ablk] using hb'
 subst hb'
 have hcs := hs.cells encS_len (List.getElem?_eq_getElem hp)
 exact cell_lt (hcs 0 _ rfl)
theorem sl_none {h h' : Heap} {r : Value} (hs : SL encS h r []) : SL encS h' r [] := by
 obtain ⟨a, c, rfl, hlc, hsrc⟩ := hs
 refine ⟨a, c, rfl, hlc, ?_⟩
 cases a with
 |none => exact hsrc
 |some ad =>
  obtain ⟨b, o, n⟩ := ad
  cases n with
  |none => exact fun i v hv => by simp at hv
  |some n => exact hsrc
def slE (r : Value) (l : List ByteArray) : En := .x (if l = [] then [] else vblk r) (fun h => SL encS h r l)
 (fun S h h' hc hn hs => by
  by_cases hl : l = []
  ·subst hl; exact sl_none hs
  ·rw [if_neg hl] at hn; exact hs.chg hc hn)
 (fun h hs b hb => by
  by_cases hl : l = []
  ·rw [if_pos hl] at hb; exact (nomatch hb)
  ·rw [if_neg hl] at hb; exact sl_lt hs hl b hb)
theorem slE_fp {r : Value} {l : List ByteArray} {b : Nat} (hb : b ∈ (slE r l).fp) : b ∈ vblk r := by
 have hb : b ∈ (if l = [] then [] else vblk r) := hb
 split at hb
 ·exact (nomatch hb)
 ·exact hb
section
variable {h0 h h1 h2 h' : Heap} {ab kb sb mb c b1 b2 : Nat} {now : Int} {av : Value} {A l : List ByteArray} {m : List KI} {S : Space}
def Gone9 (S : Space) (now : Int) (A : List ByteArray) (i : Nat) (f : ByteArray → Nat) (acc : List ByteArray) : Prop :=
 (∀ s, f s ≤ i) ∧ (0 < i → acc.Pairwise (fun x y => sless x y = true) ∧ (∀ s, f s = i ↔ s ∈ acc) ∧ cSinter S now A = interL S now acc (A.drop i) fun l => .ok (listR l, []))
theorem gone9_step {i : Nat} {f : ByteArray → Nat} {acc : List ByteArray} {key : ByteArray} (g : Gone9 S now A i f acc) (hl : A.length < 65536) (hk : A[i]? = some key) (hok : okK 4 (getS S key now) = true) (hso : ((getS S key now).getD zeroT).list.Pairwise fun a b => sless a b = true) :
  ∃ acc', Gone9 S now A (i + 1) (stepF f i ((getS S key now).getD zeroT).list) acc' := by
 obtain ⟨g1, g2⟩ := g
 have hil : i < A.length := (List.getElem?_eq_some_iff.1 hk).1
 have hke : A[i] = key := (List.getElem?_eq_some_iff.1 hk).2
 have hle : ∀ s, stepF f i ((getS S key now).getD zeroT).list s ≤ i + 1 := fun s => by
  have := g1 s
  unfold stepF
  split <;> omega
 have hdr : A.drop i = key :: A.drop (i + 1) := by rw [List.drop_eq_getElem_cons hil, hke]
 by_cases hi : i = 0
 ·subst hi
  refine ⟨((getS S key now).getD zeroT).list, hle, fun _ => ⟨hso, fun s => ?_, ?_⟩⟩
  ·have := g1 s
   unfold stepF
   constructor
   ·intro h
    split at h
    ·rename_i h2; exact h2.1
    ·omega
   ·intro h
    rw [if_pos ⟨h, by omega⟩]
  ·obtain ⟨ks, rfl⟩ : ∃ ks, A = key :: ks := ⟨A.drop 1, by simpa using hdr⟩
   have hl : ks.length + 1 < 65536 := hl
   show (if ks.length < 65536 then kindly S now 4 key fun t => interL S now t.list ks fun l => .ok (listR l, []) else .error wArgs) = _
   rw [if_pos (by omega), kindly_ok hok]
   rfl
 ·obtain ⟨g3, g4, g5⟩ := g2 (by omega)
  refine ⟨acc.filter (thereL ((getS S key now).getD zeroT).list), hle, fun _ => ⟨g3.filter _, fun s => ?_, ?_⟩⟩
  ·rw [List.mem_filter]
   unfold stepF thereL
   have h4 := g4 s
   have := g1 s
   constructor
   ·intro h
    split at h
    ·rename_i h2; exact ⟨h4.1 h2.2, decide_eq_true h2.1⟩
    ·omega
   ·rintro ⟨h5, h6⟩
    rw [if_pos ⟨of_decide_eq_true h6, h4.2 h5⟩]
  ·rw [g5, hdr]
   show kindly S now 4 key (fun t => interL S now (acc.filter (thereL t.list)) (A.drop (i + 1)) fun l => .ok (listR l, [])) = _
   rw [kindly_ok hok]
theorem gone9_bad {i : Nat} {f : ByteArray → Nat} {acc : List ByteArray} {key : ByteArray} (g : Gone9 S now A i f acc) (hl : A.length < 65536) (hk : A[i]? = some key) (hok : okK 4 (getS S key now) = false) : cSinter S now A = .error wType := by
 have hil : i < A.length := (List.getElem?_eq_some_iff.1 hk).1
 have hke : A[i] = key := (List.getElem?_eq_some_iff.1 hk).2
 have hdr : A.drop i = key :: A.drop (i + 1) := by rw [List.drop_eq_getElem_cons hil, hke]
 by_cases hi : i = 0
 ·subst hi
  obtain ⟨ks, rfl⟩ : ∃ ks, A = key :: ks := ⟨A.drop 1, by simpa using hdr⟩
  have hl : ks.length + 1 < 65536 := hl
  show (if ks.length < 65536 then kindly S now 4 key fun t => interL S now t.list ks fun l => .ok (listR l, []) else .error wArgs) = _
  rw [if_pos (by omega), kindly_no hok]
 ·rw [(g.2 (by omega)).2.2, hdr]
  exact kindly_no hok
set_option maxHeartbeats 2000000 in
theorem sinter9 (p : P9 h0 kb sb mb c m S av A) (hs9 : S9 S) (hi : InS S) (hA : A.length ≤ 30) (x : As h0 h (c0 ab kb now av)) : CallsH Tryz.prog 100 [ptr ab] h (Cmd9 h0 h ab kb now av (cSinter S now A)) := by
 refine f100_calls (by simp) ?_
 intro b2 h1 g1
 have w := x.st.new g1
 refine sub9_go (i := 1) x w rfl (fun x => many9_calls p (by decide) x) ?_ ?_
 rotate_left
 ·rintro why h2 ⟨hB, rfl⟩ c2
  refine bad9 ?_ c2
  cases A with
  |nil => rfl
  |cons k0 l => exact absurd ⟨by simp; omega, by simp at hA ⊢; omega⟩ hB
 rintro _ h2 _ ⟨hb, k0, hk0, rfl⟩ w
 obtain ⟨ba, oa, ac, rfl⟩ := p.argF (by omega)
 intro mb2 h3 g3
 have w := w.newm g3
 refine w.ldc 2 rfl rfl ?_
 refine loop_intro (fun i : Nat => [(0, ptr ab), (2, ptr b2), (3, .map (some mb2)), (17, .slice (some ⟨ba, oa, none⟩) A.length ac), (18, .int .i64 A.length), (19, .int .i64 i)])
  (fun i h' => i ≤ A.length ∧ ∃ ms cc ks f acc key t is pv lw rv, IM ms cc ks f ∧ ms.length ≤ 2000 * i ∧ Gone9 S now A i f acc ∧
   St (c0 ab kb now (.slice (some ⟨ba, oa, none⟩) A.length ac)).fp h h' [.m mb2 ms cc, .b b2 [.int .i64 0, .int .i64 0, .string ⟨#[]⟩, .slice none 0 0], cE ab kb now (.slice (some ⟨ba, oa, none⟩) A.length ac) key t is pv lw rv nilV []])
  (fun i => A.length - i) 0 ⟨rfl, rfl, rfl, rfl, rfl, rfl, trivial⟩ ⟨Nat.zero_le _, [], 0, [], fun _ => 0, [], _, _, _, _, _, _, IM.nil, Nat.zero_le _, ⟨fun _ => Nat.le_refl _, fun h9 => absurd h9 (by decide)⟩, w⟩ ?_
 rintro i h4 ⟨hil, ms, cc, ks, f, acc, key, t, is, pv, lw, rv, im, hml, gn, w⟩
 refine Ai rfl (Ai (fun hlt => ?_) (fun hge => ?_))
 ·have hlt : i < A.length := by omega
  obtain ⟨s, hs⟩ : ∃ s, A[i]? = some s := ⟨_, List.getElem?_eq_getElem hlt⟩
  refine p.ix (x.base w) i rfl hs ?_
  refine w.ckey 2 rfl fun h5 w => ?_
  refine sub9_go (i := 2) x w rfl (fun x => of9_calls p x) ?_ ?_
  rotate_left
  ·rintro why h6 ⟨hB, rfl⟩ c6
   exact bad9 (gone9_bad gn (by omega) hs hB) c6
  rintro _ h6 _ ⟨hk, p2, w2, r2, rfl⟩ w
  have htl := (hs9.get s now).ls
  have htz := (hs9.get s now).lz
  have hso := set_sorted hi hk
  obtain ⟨acc2, gn2⟩ := gone9_step gn (by omega) hs hk hso
  generalize (getS S s now).getD zeroT = t at *
  obtain ⟨la, lc, rfl, _⟩ := (w.thc 2 rfl).2.1.form
  have hnd : t.list.Nodup := hso.imp fun h => sless_ne h
  refine w.ldc 2 rfl rfl ?_
  refine loop_intro (fun j : Nat => [(0, ptr ab), (2, ptr b2), (3, .map (some mb2)), (4, .int .i64 i), (17, .slice (some ⟨ba, oa, none⟩) A.length ac), (18, .int .i64 A.length), (19, .int .i64 i), (34, .slice la t.list.length lc), (35, .int .i64 t.list.length), (36, .int .i64 j)])
   (fun j h' => j ≤ t.list.length ∧ ∃ ms cc ks, IM ms cc ks (stepF f i (t.list.take j)) ∧ ms.length ≤ 2000 * i + j ∧
    St (c0 ab kb now (.slice (some ⟨ba, oa, none⟩) A.length ac)).fp h h' [.m mb2 ms cc, .b b2 [.int .i64 0, .int .i64 0, .string ⟨#[]⟩, .slice none 0 0], cE ab kb now (.slice (some ⟨ba, oa, none⟩) A.length ac) s t (getS S s now).isSome p2 (.slice la t.list.length lc) r2 nilV []])
   (fun j => t.list.length - j) 0 ⟨rfl, rfl, rfl, rfl, rfl, rfl, rfl, rfl, rfl, rfl, trivial⟩ ⟨Nat.zero_le _, ms, cc, ks, by rw [List.take_zero, stepF_nil]; exact im, by omega, w⟩ ?_
  clear im w hml
  rintro j h7 ⟨hjl, ms, cc, ks, im, hml, w⟩
  refine Ai rfl (Ai (fun hlt2 => ?_) (fun hge2 => ?_))
  ·have hlt2 : j < t.list.length := by omega
   obtain ⟨b, o, rfl⟩ := (w.thc 2 rfl).2.1.addr (by omega)
   obtain ⟨y, hy⟩ : ∃ y, y = t.list[j] := ⟨_, rfl⟩
   have hyz := htz y (by rw [hy]; exact List.getElem_mem hlt2)
   have htk : t.list.take (j + 1) = t.list.take j ++ [y] := by rw [List.take_succ_eq_append_getElem hlt2, hy]
   have hyn : y ∉ t.list.take j := fun hm => by
    have h9 : t.list.take (j + 1) = t.list.take j ++ [y] := htk
    have h8 := hnd.sublist (List.take_sublist (j + 1) t.list)
    rw [h9, List.nodup_append] at h8
    exact h8.2.2 y hm y (by simp) rfl
   have hfy := stepF_at (f := f) (i := i) hyn
   refine sl_ix (s := y) (w.thc 2 rfl).2.1 j rfl (by rw [hy]; exact List.getElem?_eq_getElem hlt2) ?_
   have gfy : f y ≤ i := gn.1 y
   have next : ∀ {h8 : Heap} {ms : List MapEntry} {cc : Nat} {ks : List ByteArray}, IM ms cc ks (stepF f i (t.list.take (j + 1))) → ms.length ≤ 2000 * i + (j + 1) →
     St (c0 ab kb now (.slice (some ⟨ba, oa, none⟩) A.length ac)).fp h h8 [.m mb2 ms cc, .b b2 [.int .i64 0, .int .i64 0, .string ⟨#[]⟩, .slice none 0 0], cE ab kb now (.slice (some ⟨ba, oa, none⟩) A.length ac) s t (getS S s now).isSome p2 (.slice (some ⟨b, o, none⟩) t.list.length lc) r2 nilV []] →
     j + 1 ≤ t.list.length ∧ ∃ ms cc ks, IM ms cc ks (stepF f i (t.list.take (j + 1))) ∧ ms.length ≤ 2000 * i + (j + 1) ∧ St (c0 ab kb now (.slice (some ⟨ba, oa, none⟩) A.length ac)).fp h h8 [.m mb2 ms cc, .b b2 [.int .i64 0, .int .i64 0, .string ⟨#[]⟩, .slice none 0 0], cE ab kb now (.slice (some ⟨ba, oa, none⟩) A.length ac) s t (getS S s now).isSome p2 (.slice (some ⟨b, o, none⟩) t.list.length lc) r2 nilV []] :=
    fun a b c => ⟨hlt2, _, _, _, a, b, c⟩
   rcases im.val y with ⟨hn, e1, hf0⟩ | ⟨hm, q, e1⟩
   ·have hf0 : f y = 0 := hfy.symm.trans hf0
    refine Ai rfl (Ei ms (Ei cc (Ai (w.get 0 rfl) (Ai im.fits ?_))))
    rw [e1]
    refine Ai rfl (Ai (fun heq => ?_) (fun hne => ?_))
    ·have hi0 : i = 0 := by omega
     refine Ai rfl (Ei ms (Ei cc (Ai (w.get 0 rfl) (Ai im.fits ?_))))
     rw [e1]
     refine Ai rfl (fun z hz => ?_)
     have hz : z = 1 := by have := add_in hz (by omega) (by omega); omega
     subst hz
     refine Ai rfl (Ei ms (Ei cc (Ai (w.get 0 rfl) (Ai im.fits ?_))))
     rw [e1]
     intro h8 p8
     have w := w.mput 0 rfl p8
     have im2 := im.put0 hn e1 (hfy.trans hf0) (by omega) rfl
     rw [stepF_yes hyn (by omega), ← htk] at im2
     refine Ai rfl (fun z hz => ?_)
     have hz := add_in hz (by omega) (by omega)
     subst hz
     exact Ai rfl (Ei (j + 1) (Ai ⟨rfl, rfl, rfl, rfl, rfl, rfl, rfl, rfl, rfl, rfl, trivial⟩ (Ai (next im2 (by simp; omega) w) (by omega))))
    ·rw [stepF_no (x := y) (by omega), ← htk] at im
     refine Ai rfl (fun z hz => ?_)
     have hz := add_in hz (by omega) (by omega)
     subst hz
     exact Ai rfl (Ei (j + 1) (Ai ⟨rfl, rfl, rfl, rfl, rfl, rfl, rfl, rfl, rfl, rfl, trivial⟩ (Ai (next im (by omega) w) (by omega))))
   ·refine Ai rfl (Ei ms (Ei cc (Ai (w.get 0 rfl) (Ai im.fits ?_))))
    rw [e1]
    refine Ai rfl (Ai (fun heq => ?_) (fun hne => ?_))
    ·have hfi : f y = i := by rw [hfy] at heq; omega
     refine Ai rfl (Ei ms (Ei cc (Ai (w.get 0 rfl) (Ai im.fits ?_))))
     rw [e1]
     refine Ai rfl (fun z hz => ?_)
     have hz := add_in hz (by omega) (by omega)
     subst hz
     refine Ai rfl (Ei ms (Ei cc (Ai (w.get 0 rfl) (Ai im.fits ?_))))
     rw [e1]
     intro h8 p8
     have w := w.mput 0 rfl p8
     have im2 := im.put1 hm e1 rfl
     rw [stepF_yes hyn hfi, ← htk] at im2
     refine Ai rfl (fun z hz => ?_)
     have hz := add_in hz (by omega) (by omega)
     subst hz
     exact Ai rfl (Ei (j + 1) (Ai ⟨rfl, rfl, rfl, rfl, rfl, rfl, rfl, rfl, rfl, rfl, trivial⟩ (Ai (next im2 (by rw [List.length_modify]; omega) w) (by omega))))
    ·have hfi : f y ≠ i := fun e => hne (by rw [hfy]; omega)
     rw [stepF_no hfi, ← htk] at im
     refine Ai rfl (fun z hz => ?_)
     have hz := add_in hz (by omega) (by omega)
     subst hz
     exact Ai rfl (Ei (j + 1) (Ai ⟨rfl, rfl, rfl, rfl, rfl, rfl, rfl, rfl, rfl, rfl, trivial⟩ (Ai (next im (by omega) w) (by omega))))
  ·have hj : j = t.list.length := by omega
   subst hj
   rw [List.take_length] at im
   refine Ai rfl (fun z hz => ?_)
   have hz := add_in hz (by omega) (by omega)
   subst hz
   exact Ai rfl (Ei (i + 1) (Ai ⟨rfl, rfl, rfl, rfl, rfl, rfl, trivial⟩ (Ai ⟨hlt, ms, cc, ks, _, acc2, _, _, _, _, _, _, im, by omega, gn2, w⟩ (by omega))))
 ·have hin : i = A.length := by omega
  subst hin
  obtain ⟨g1, g2⟩ := gn
  obtain ⟨g3, g4, g5⟩ := g2 (by omega)
  rw [List.drop_length] at g5
  have he : cSinter S now A = .ok (listR acc, []) := g5
  have hM : MapB h4 mb2 ms cc := w.get 0 rfl
  refine call_ret SI.mKeys_calls ?_
  rintro _ h5 ⟨rfl, rfl⟩
  have w5 := w.ext (SI.keysHeap_chg h4 mb2)
  refine call_ret (SI.sSorted_calls (mb := mb2) (c := cc) (ms := ms) (ks := ks) ⟨hM, im.keys, im.small, by omega, im.born, im.borns, im.nodup⟩) ?_
  rintro r h6 ⟨Lk, hLs, hLp, hLo, hfb, c6⟩
  have w := w5.add (e := slE r Lk) c6 hLs (fun b hb => by
   have := hfb b (slE_fp hb)
   show (SI.keysHeap h4 mb2).size ≤ b
   unfold SI.keysHeap
   simp; omega)
  have hkl := im.klen
  have hLl : Lk.length ≤ 60000 := by rw [hLp.length_eq, hkl]; omega
  obtain ⟨ra, rc, rfl, _⟩ := hLs.form
  have hfin : Lk.filter (fun s => decide (f s = A.length)) = acc := sorted_same (hLo.filter _) g3 fun s => by
   rw [List.mem_filter, hLp.mem_iff, ← g4 s]
   constructor
   ·rintro ⟨_, h9⟩; exact of_decide_eq_true h9
   ·intro h9
    refine ⟨?_, decide_eq_true h9⟩
    rcases im.val s with ⟨_, _, h0⟩ | ⟨hm, _⟩
    ·omega
    ·exact hm
  have w := w.empty (enc := encS) (size := 1)
  refine loop_intro (fun q : Nat × Value => [(0, ptr ab), (2, ptr b2), (3, .map (some mb2)), (8, q.2), (53, .slice ra Lk.length rc), (54, .int .i64 Lk.length), (55, .int .i64 q.1)])
   (fun q h' => q.1 ≤ Lk.length ∧ St (c0 ab kb now (.slice (some ⟨ba, oa, none⟩) A.length ac)).fp h h' [.o encS 1 q.2 ((Lk.take q.1).filter fun s => decide (f s = A.length)), slE (.slice ra Lk.length rc) Lk, .m mb2 ms cc, .b b2 [.int .i64 0, .int .i64 0, .string ⟨#[]⟩, .slice none 0 0],
    cE ab kb now (.slice (some ⟨ba, oa, none⟩) A.length ac) key t is pv lw rv nilV []])
   (fun q => Lk.length - q.1) (0, .slice none 0 0) ⟨rfl, rfl, rfl, rfl, rfl, rfl, rfl, trivial⟩ ⟨Nat.zero_le _, w⟩ ?_
  rintro ⟨q, v⟩ h7 ⟨hq, w⟩
  replace hq : q ≤ Lk.length := hq
  have hfl := List.length_filter_le (fun s => decide (f s = A.length)) (Lk.take q)
  rw [List.length_take] at hfl
  obtain ⟨a7, c7, rfl, _⟩ := (show OL encS 1 h7 v ((Lk.take q).filter fun s => decide (f s = A.length)) from w.get 0 rfl).sl.form
  refine Ai rfl (Ai (fun hlt => ?_) (fun hge2 => ?_))
  ·have hlt : q < Lk.length := by omega
   have hSL : SL encS h7 (.slice ra Lk.length rc) Lk := w.get 1 rfl
   obtain ⟨b, o, rfl⟩ := hSL.addr (by omega)
   obtain ⟨y, hy⟩ : ∃ y, y = Lk[q] := ⟨_, rfl⟩
   have hym : y ∈ ks := hLp.mem_iff.1 (by rw [hy]; exact List.getElem_mem hlt)
   have htk : Lk.take (q + 1) = Lk.take q ++ [y] := by rw [List.take_succ_eq_append_getElem hlt, hy]
   refine sl_ix (s := y) hSL q rfl (by rw [hy]; exact List.getElem?_eq_getElem hlt) ?_
   rcases im.val y with ⟨hn, _⟩ | ⟨_, p1, e1⟩
   ·exact absurd hym hn
   refine Ai rfl (Ei ms (Ei cc (Ai (w.get 2 rfl) (Ai im.fits ?_))))
   rw [e1]
   refine w.ldc 4 rfl rfl ?_
   refine Ai rfl (Ai (fun heq => ?_) (fun hne => ?_))
   ·have hfy : decide (f y = A.length) = true := decide_eq_true (by omega)
    intro b8 h8 g8
    have w := w.new g8
    refine w.app 1 rfl encS_len encS_one rfl (SL.one encS_len (x := y) (w.get 0 rfl)) (by simp only [List.length_singleton]; omega) fun v' h9 w => ?_
    have hsn : (Lk.take q).filter (fun s => decide (f s = A.length)) ++ [y] = (Lk.take (q + 1)).filter fun s => decide (f s = A.length) := by
     rw [htk, List.filter_append, List.filter_cons, hfy]; rfl
    rw [hsn] at w
    have w := w.pick [1, 2, 3, 4, 5] (by decide)
    refine Ai rfl (fun z hz => ?_)
    have hz := add_in hz (by omega) (by omega)
    subst hz
    exact Ai rfl (Ei (q + 1, v') (Ai ⟨rfl, rfl, rfl, rfl, rfl, rfl, rfl, trivial⟩ (Ai ⟨hlt, w⟩ (by simp only; omega))))
   ·have hfy : decide (f y = A.length) = false := decide_eq_false (by omega)
    have hsn : (Lk.take q).filter (fun s => decide (f s = A.length)) = (Lk.take (q + 1)).filter fun s => decide (f s = A.length) := by
     rw [htk, List.filter_append, List.filter_cons, hfy]; simp
    have ew : (En.o encS 1 (.slice a7 ((Lk.take q).filter fun s => decide (f s = A.length)).length c7) ((Lk.take q).filter fun s => decide (f s = A.length))) = .o encS 1 (.slice a7 ((Lk.take q).filter fun s => decide (f s = A.length)).length c7) ((Lk.take (q + 1)).filter fun s => decide (f s = A.length)) := by rw [← hsn]
    rw [ew] at w
    refine Ai rfl (fun z hz => ?_)
    have hz := add_in hz (by omega) (by omega)
    subst hz
    exact Ai rfl (Ei (q + 1, _) (Ai ⟨rfl, rfl, rfl, rfl, rfl, rfl, rfl, trivial⟩ (Ai ⟨hlt, w⟩ (by simp only; omega))))
  ·have hql : q = Lk.length := by omega
   subst hql
   have hO : OL encS 1 h7 (.slice a7 ((Lk.take Lk.length).filter fun s => decide (f s = A.length)).length c7) ((Lk.take Lk.length).filter fun s => decide (f s = A.length)) := w.get 0 rfl
   refine call_ret (listStr_calls hO.sl (by omega)) ?_
   rintro _ h8 ⟨⟨ra8, rn8, rc8, rfl, ol, fr⟩, c8⟩
   have hz := w.size
   have w := w.add (e := .o encQ 4 (.slice ra8 rn8 rc8) _) c8 ol fr
   refine w.st1 4 rfl rfl rfl rfl fun h9 w => ?_
   refine finl9 x w 4 5 0 rfl rfl rfl (fun b hb => by have := fr b hb; omega) ?_
   rw [he, List.take_length, hfin]
   simp [listR, qs, toQ]
end
end Go.Proofs.YtjnijlnmbjjgpaaGreatDoor
namespace Go.Proofs.YtjnijlnmbjjgpaaGreatDoor
open Go Go.Sx C
theorem s9_of {l k : List RX} (nv : NVast l) (hk : ofX [] l = some k) (hr : ∀ x ∈ l, ∀ r ∈ x.thing.ranks, In64 r.score) : S9 (k.map RX.pr) := by
 obtain ⟨_, h2, _⟩ := ofX_ok List.Pairwise.nil hk
 intro p hp
 obtain ⟨x, hx, rfl⟩ := List.mem_map.1 hp
 have hm : x ∈ l := by simpa using (h2 x).1 hx
 have s := nv.small x hm
 have a := s.p; have b := s.l; have c := s.r
 exact ⟨by show x.thing.pairs.length ≤ _; omega, by show x.thing.list.length ≤ _; omega, by show x.thing.ranks.length ≤ _; omega, fun p hp => (s.ps p hp).2, hr x hm, s.rs, s.ls⟩
def itRT (x : Int × Int × ByteArray) : RT := .mk x.1 x.2.1 x.2.2 (.slice none 0 0) []
theorem sl_rt {h : Heap} {v : Value} {l : List (Int × Int × ByteArray)} (hs : SL encQ h v l) : SL encT h v (l.map itRT) := by
 obtain ⟨a, c, rfl, h1, h2⟩ := hs
 refine ⟨a, c, by rw [List.length_map], by rw [List.length_map]; exact h1, ?_⟩
 rw [List.length_map, List.flatMap_map]
 exact h2
theorem oks_rt {h : Heap} : ∀ {l : List (Int × Int × ByteArray)}, RT.oks h (l.map itRT)
 |[] => trivial
 |x :: l => ⟨⟨SL.nil, by simp, trivial⟩, oks_rt⟩
theorem rsameQ_calls {h : Heap} {q : Rep} {v u : Value} (hv : SL encQ h v q.l) (hu : SL encQ h u q.l) (hl : q.l.length ≤ 100000) :
  CallsH Tryz.prog 27 [.agg ⟨[.int .i64 q.k, .int .i64 q.i, .string q.s, v]⟩, .agg ⟨[.int .i64 q.k, .int .i64 q.i, .string q.s, u]⟩] h (Ret fun r h' => r = .bool true ∧ Chg [] h h') := by
 have hc := rsame_calls _ (.mk q.k q.i q.s v (q.l.map itRT)) (.mk q.k q.i q.s u (q.l.map itRT)) h (Nat.lt_succ_self _) ⟨sl_rt hv, by simp; omega, oks_rt⟩ ⟨sl_rt hu, by simp; omega, oks_rt⟩
 have e : RT.same (.mk q.k q.i q.s v (q.l.map itRT)) (.mk q.k q.i q.s u (q.l.map itRT)) = true := by simp [RT.same, RT.sames_refl]
 rw [e] at hc
 exact hc
theorem rsameE_calls {h : Heap} {v u : Value} {E : List Eff} (hv : SL encD h v E) (hu : SL encD h u E) (hE : E.length ≤ 100000) : CallsH Tryz.prog 32 [v, u] h (Ret fun r h' => r = .bool true ∧ h' = h) := by
 obtain ⟨a, c, rfl, _⟩ := hv.form
 obtain ⟨a', c', rfl, _⟩ := hu.form
 refine f32_calls (by simp) ?_
 refine Ai rfl (Ai (fun hne => absurd rfl hne) (fun _ => ?_))
 refine loop_intro (fun q : Nat => [(0, .slice a E.length c), (1, .slice a' E.length c'), (5, .int .i64 q)]) (fun q h' => q ≤ E.length ∧ h' = h) (fun q => E.length - q) 0 ⟨rfl, rfl, rfl, trivial⟩ ⟨Nat.zero_le _, rfl⟩ ?_
 rintro q h' ⟨hq, e⟩
 have e := e.symm
 subst e
 refine Ai rfl (Ai (fun hlt => ?_) (fun hge => ?_))
 ·have hlt : q < E.length := by omega
  obtain ⟨b, o, rfl⟩ := hv.addr (by omega)
  obtain ⟨b', o', rfl⟩ := hu.addr (by omega)
  have hcs := hv.cells encD_len (List.getElem?_eq_getElem hlt)
  have hds := hu.cells encD_len (List.getElem?_eq_getElem hlt)
  refine Ai (by omega) (Ai (by omega) (Ei (encD E[q]) (Ai rfl (Ai hcs ?_))))
  refine Ai (by omega) (Ai (by omega) (Ei (encD E[q]) (Ai rfl (Ai hds ?_))))
  refine Ai rfl (Ai rfl (Ai (fun _ => ?_) (fun hne => absurd rfl hne)))
  refine Ai rfl (fun z hz => ?_)
  have hz := add_in hz (by omega) (by omega)
  subst hz
  exact Ai rfl (Ei (q + 1) (Ai ⟨rfl, rfl, rfl, trivial⟩ (Ai ⟨hlt, rfl⟩ (by omega))))
 ·exact Ai rfl rfl
theorem getPr9 {w : List RX} {k : Nat} (hk : k < (w.map RX.pr).length) (hk' : k < w.length) : (w.map RX.pr)[k] = (w[k].key, w[k].thing) := by
 rw [List.getElem_map]; rfl
theorem w9same_calls {h : Heap} {kb sb mb c : Nat} {m : List KI} {v : Value} {w0 : List RX} (kr : KR h kb sb mb c m) (hv : SL encX h v w0) (g : GX h w0) (hW : Sorted m (w0.map RX.pr)) (hl : w0.length ≤ 65536) :
  CallsH Tryz.prog 33 [ptr kb, v] h (Ret fun r h' => r = .bool true ∧ Chg [] h h') := by
 have hlens : ∀ x ∈ w0, Lens x.thing := by
  intro x hx
  obtain ⟨i, hi, hip⟩ := List.mem_map.1 ((hW.mem x.pr).1 (List.mem_map_of_mem hx))
  have : i.thing = x.thing := congrArg Prod.snd hip
  rw [← this]; exact (kr.here i hi).2.2
 obtain ⟨a, cc, rfl, hcc⟩ := hv.form
 refine f33_calls (by simp) ?_
 intro b3 h1 g1
 have w := (St.start h).new g1
 intro b4 h2 g2
 have w := w.new g2
 intro b5 h3 g3
 have w := w.new g3
 refine w.st1 0 rfl rfl rfl rfl fun h4 w => ?_
 refine call_ret (All_calls (kb := kb)) ?_
 rintro _ h5 ⟨bI, rfl, g5⟩
 have w : St [] h h5 [.b bI [ptr kb], .b b5 [.int .i64 0], .b b4 [.bool false], .b b3 [.slice a w0.length cc]] := w.new g5
 intro l D r h7 hD hl7 hsz hold hmark hloop hy
 have hc7 : Chg [] h5 h7 := ⟨by omega, fun k hk _ => hold k hk⟩
 have hne : D ≠ l := by omega
 have w := w.add (e := lpE l D r .ready) hc7 ⟨hloop, hmark⟩ (fun b hb => by simp [lpE, En.fp] at hb; omega)
 refine (iter_calls hW (fun p k h' => St [] h h' [ltE p, lpE l D r .ready, .b bI [ptr kb], .b b5 [.int .i64 k], .b b4 [.bool false], .b b3 [.slice a w0.length cc]]) (fun _ => False) (w.get 1 rfl) (kr.ext w.chg)
  (fun p h' hp1 hp2 hc => w.add (e := ltE p) hc hp2 (fun b hb => by simp [ltE, En.fp] at hb; omega)) (fun p k h' w => ⟨w.get 2 rfl, kr.ext w.chg⟩) (fun p k h' h'' w hc => w.ext hc) (fun p k h' us hk w tu => ?_)).mono ?_
 ·have hkw : k < w0.length := by simpa using hk
  rw [getPr9 hk hkw] at tu ⊢
  have hlp := w.get 0 rfl
  have w := w.set (e' := fixE p h'[p]?) 0 rfl (Chg.refl _) (by simp) ⟨hlp, rfl⟩ (fun b hb => .inl hb)
  refine hy h' _ _ (w.get 1 rfl).1 rfl ?_
  intro b8 h8 g8
  refine Ei _ (Ai g8.blk (Ai (by decide) (Ai tu.len (Ai (thing_one tu) ?_))))
  intro h9 p9
  have g9 : Grow h' h9 b8 (splice zeroV 0 us) := g8.put p9
  rw [seven rfl tu.len] at g9
  have w := w.new g9
  have tu9 : TH h9 us w0[k].thing := tu.ext g9.chg
  have L9 := (w.get 2 rfl).1
  refine Ai L9 (fun h10 t10 => ?_)
  have w := w.turn 2 rfl hne t10
  have tu10 : TH h10 us w0[k].thing := tu9.ch (turn_ch L9 t10)
  have hv10 := hv.ext w.chg
  have hx10 := (g.ext w.chg) w0[k] (List.getElem_mem hkw)
  obtain ⟨b, o, rfl⟩ := hv10.addr (by omega)
  have hcs := hv10.cells encX_len (i := k) (x := w0[k]) (by simp [hkw])
  refine w.ld1 4 rfl rfl ?_
  refine w.ld1 6 rfl rfl ?_
  refine Ai rfl (Ai (fun hge => absurd hge (by omega)) (fun _ => ?_))
  refine w.ld1 6 rfl rfl ?_
  refine w.ld1 4 rfl rfl ?_
  refine Ai (by omega) (Ai (by omega) (Ei _ (Ai (hcs 0 _ rfl) ?_)))
  refine Ai (fun hne => absurd rfl hne) (fun _ => ?_)
  refine Ei us (Ai tu10.len (Ai (cells_blk (w.get 0 rfl)) ?_))
  refine w.ld1 6 rfl rfl ?_
  refine w.ld1 4 rfl rfl ?_
  refine Ai (by omega) (Ai (by omega) (Ei w0[k].vs (Ai w0[k].len (Ai (cells_vs hcs) ?_))))
  have hfk := (hlens w0[k] (List.getElem_mem hkw)).fits
  refine call_ret (RSame_calls tu10 hx10 hfk hfk) ?_
  rintro r11 h11 ⟨hr11, c11⟩
  rw [decide_eq_true rfl] at hr11
  subst hr11
  have w := w.ext c11
  refine w.ld1 4 rfl rfl ?_
  refine Ai rfl (fun z hz => ?_)
  have hz := add_in hz (by omega) (by omega)
  subst hz
  refine w.st1 4 rfl rfl rfl rfl fun h12 w => ?_
  refine Ai (w.get 2 rfl).1 (fun h13 t13 => ?_)
  have w := w.turn 2 rfl hne t13
  have hfx := w.get 1 rfl
  have w := (w.pick [1, 2, 3, 4, 5, 6] (by decide))
  have w := w.set (e' := ltE p) 0 rfl (Chg.refl _) (by simp) hfx.1 (fun b hb => .inl hb)
  exact .inl ⟨rfl, w, hfx.2⟩
 ·intro e h8 he
  cases e with
  |panicked ch => exact he.elim
  |outgrown => exact he.elim
  |returned u =>
   obtain ⟨p, w⟩ | hF := he
   rotate_left
   ·exact hF.elim
   refine ⟨.ready, none, (w.get 1 rfl).1, by simp, fun h9 t9 => ?_⟩
   have w := w.turn 1 rfl hne t9
   refine w.ld1 3 rfl rfl ?_
   refine w.ld1 5 rfl rfl ?_
   refine Ai rfl (Ai (fun _ => ?_) (fun hne => absurd (by simp) hne))
   refine w.st1 4 rfl rfl rfl rfl fun h10 w => ?_
   refine Ai (w.get 1 rfl).2 (fun h11 p11 => ?_)
   have w := w.gone 1 rfl p11.chg (fun b hb => .inl (by simp at hb; simp [lpE, En.fp, hb]))
   refine Ei _ (Ai (cell_blk (w.get 4 rfl) rfl) ?_)
   exact Ai rfl w.chg
def outR : Res → Rep × List Eff
 |.ok p => p
 |.error why => (rep 2 0 why, [])
theorem DoR.out {h h' : Heap} {r : Value} {res : Res} (x : DoR h res r h') : Chg [] h h' ∧ ∃ ra rn rc la lc, r = .tuple ⟨[.agg ⟨[.int .i64 (outR res).1.k, .int .i64 (outR res).1.i, .string (outR res).1.s, .slice ra rn rc]⟩, .slice la (outR res).2.length lc, .bool true]⟩ ∧
  SL encQ h' (.slice ra rn rc) (outR res).1.l ∧ SL encD h' (.slice la (outR res).2.length lc) (outR res).2 := by
 obtain ⟨c, x⟩ := x
 cases res with
 |error why =>
  have x : r = .tuple ⟨[repV 2 0 why, .slice none 0 0, .bool true]⟩ := x
  subst x
  exact ⟨c, none, 0, 0, none, 0, rfl, SL.nil, SL.nil⟩
 |ok p =>
  obtain ⟨q, E⟩ := p
  obtain ⟨v, lv, rfl, ⟨ra, rn, rc, rfl, hq, _⟩, hs, _⟩ := x
  obtain ⟨la, lc, rfl, _⟩ := hs.form
  exact ⟨c, ra, rn, rc, la, lc, rfl, hq, hs⟩
def Short (res : Res) : Prop := (outR res).1.l.length ≤ 100000 ∧ (outR res).2.length ≤ 100000
def ByP9 (now : Int) (AA : List ByteArray) (res : Space → Res) : Prop := ∀ {h : Heap} {kb sb mb c : Nat} {m : List KI} {S : Space} {av : Value}, KR h kb sb mb c m → Sorted m S → S8 S → S9 S → LaidN h → K5.TabH h → SL encS h av AA → CallsH Tryz.prog 20 [ptr kb, .int .i64 now, av] h (Ret (DoR h (res S)))
def ByR9 (now : Int) (AA : List ByteArray) (res : Space → Res) : Prop := ∀ {h : Heap} {kv av : Value} {k : List RX}, SL encX h kv k → GX h k → UpX k → k.length ≤ 20 → KeysFit k → S8 (k.map RX.pr) → S9 (k.map RX.pr) → LaidN h → SL encS h av AA → CallsH Tryz.prog 31 [kv, .int .i64 now, av] h (Ret (DoR h (res (k.map RX.pr))))
theorem does9_calls {h : Heap} {v av : Value} {l : List RX} {now : Int} {AA : List ByteArray} {res : Space → Res} (hv : SL encX h v l) (g : GX h l) (nv : NVast l) (hun : ∀ x ∈ l, In64 x.thing.unt) (hri : ∀ x ∈ l, ∀ r ∈ x.thing.ranks, In64 r.score) (hla : LaidN h) (ht : K5.TabH h) (hA : SL encS h av AA) (hp : ByP9 now AA res) (hr : ByR9 now AA res)
  (hsh : ∀ S, S8 S → S9 S → Short (res S)) : CallsH Tryz.prog 14 [v, .int .i64 now, av] h (Ret fun r h' => r = .bool true ∧ Chg [] h h') := by
 refine f14_calls (by simp) ?_
 refine call_ret (KOf_calls hv g nv) ?_
 rintro r1 h1 ⟨c1, ho⟩
 cases hk2 : ofX [] l with
 |none =>
  rw [hk2] at ho
  subst ho
  refine call_ret (ROf_calls (hv.ext c1) (g.ext c1) nv) ?_
  rintro r2 h2 ⟨c2, hr2⟩
  have c02 := c1.nil c2
  rw [hk2] at hr2
  subst hr2
  refine Ai rfl (Ai (fun _ => ?_) (fun hne => absurd (by decide) hne))
  refine Ai rfl (Ai (fun _ => ?_) (fun hne => absurd rfl hne))
  exact Ai rfl c02
 |some k =>
  rw [hk2] at ho
  obtain ⟨kb, sb, mb, c, m, rfl, kr, hpr, hmb⟩ := ho
  refine call_ret (ROf_calls (hv.ext c1) (g.ext c1) nv) ?_
  rintro r2 h2 ⟨c2, hr2⟩
  have c02 := c1.nil c2
  rw [hk2] at hr2
  obtain ⟨w, rfl, hw, hwb⟩ := hr2
  have hW := sorted_of hpr hk2
  obtain ⟨hup, hmem, hkl⟩ := ofX_ok List.Pairwise.nil hk2
  have hnl := nv.len
  have hkl : k.length = l.length := by simpa using hkl
  have hkf : KeysFit k := fun x hx => nv.fit x (by simpa using (hmem x).1 hx)
  have gk : GX h2 k := fun x hx => (g.ext c02) x (by simpa using (hmem x).1 hx)
  have s8 := s8_of nv hk2 hun
  have s9 := s9_of nv hk2 hri
  have hsh := hsh _ s8 s9
  refine Ai rfl (Ai (fun hne => absurd rfl hne) (fun _ => ?_))
  refine Ai rfl (Ai (fun hne => absurd rfl hne) (fun _ => ?_))
  refine call_ret (hp (kr.ext c2) hW s8 s9 (hla.ext c02) (tab9 ht c02) (hA.ext c02)) ?_
  rintro r3 h3 h3r
  obtain ⟨c3, ra, rn, rc, la, lc, rfl, hq, hE⟩ := h3r.out
  intro b11 h4 g4
  have u := (St.start h3).new g4
  refine u.st1 0 rfl rfl rfl rfl fun h5 u => ?_
  have c25 := c3.nil u.chg
  refine call_ret (hr (hw.sl.ext c25) (gk.ext c25) hup (by omega) hkf s8 s9 (hla.ext (c02.nil c25)) (hA.ext (c02.nil c25))) ?_
  rintro r6 h6 h6r
  obtain ⟨c6, ra', rn', rc', la', lc', rfl, hq', hE'⟩ := h6r.out
  have u := u.ext c6
  intro b14 h7 g7
  have u := u.new g7
  have z7 := (St.start h6).new g7
  refine u.st2 0 rfl rfl rfl rfl fun h8 u k8 => ?_
  have c68 : Chg [] h6 h8 := g7.chg.fresh k8 (by simp; have := g7.id; omega)
  refine Ai (fun _ => ?_) (fun hne => absurd rfl hne)
  refine u.ldw 1 rfl rfl ?_
  refine u.ldw 0 rfl rfl ?_
  refine call_ret (rsameQ_calls (hq.ext u.chg) (hq'.ext c68) hsh.1) ?_
  rintro _ h9 ⟨rfl, c9⟩
  have u := u.ext c9
  refine call_ret (rsameE_calls (hE.ext u.chg) (hE'.ext (c68.nil c9)) hsh.2) ?_
  rintro _ h10 ⟨rfl, e10⟩
  have e10 := e10.symm
  subst e10
  have c2f := c3.nil u.chg
  refine call_ret (w9same_calls ((kr.ext c2).ext c2f) (hw.sl.ext c2f) (gk.ext c2f) hW (by omega)) ?_
  rintro _ h11 ⟨rfl, c11⟩
  exact Ai rfl ((c02.nil c2f).nil c11)
section
variable {S : Space} {now kd : Int} {key s u : ByteArray} {names : List ByteArray} {f : Thing → Res} {res : Res} {r : Rep} {E : List Eff} {a b : Res}
theorem kindlyR_ok (h : okK kd (getS S key now) = true) : kindly S now kd key f = f ((getS S key now).getD zeroT) := by
 unfold kindly
 cases hg : getS S key now with
 |none => rfl
 |some t =>
  rw [hg] at h
  exact if_pos (of_decide_eq_true h)
theorem kindlyR_no (h : okK kd (getS S key now) = false) : kindly S now kd key f = .error wType := by
 unfold kindly
 cases hg : getS S key now with
 |none => rw [hg] at h; cases h
 |some t =>
  rw [hg] at h
  exact if_neg (of_decide_eq_false h)
theorem makes_ok {items : Int} {ok : Bool} (h1 : items ≤ 65536) (h2 : key.size ≤ 300) (h3 : ok = true) : makes S now key items ok r E = .ok (r, dropsS S key now ++ E) := if_pos ⟨h1, by omega, h3⟩
theorem all_small {l : List ByteArray} (h : ∀ s ∈ l, s.size ≤ 300) : l.all small = true := List.all_eq_true.2 fun s hs => decide_eq_true (by have := h s hs; omega)
def QL (res : Res) : Prop := ∀ q E, res = .ok (q, E) → q.l.length ≤ 100000
theorem QL.bad {w : ByteArray} : QL (.error w) := fun q E h => by cases h
theorem QL.one (h : r.l.length ≤ 100000) : QL (.ok (r, E)) := fun q E' e => by cases e; exact h
theorem QL.ite {c : Prop} [Decidable c] (ha : QL a) (hb : QL b) : QL (if c then a else b) := by split <;> assumption
theorem QL.kind (h : ∀ t, T9 t → QL (f t)) (hs : S9 S) : QL (kindly S now kd key f) := by
 unfold kindly
 have h9 := hs.get key now
 cases hg : getS S key now with
 |none => rw [hg] at h9; exact h _ h9
 |some t => rw [hg] at h9; exact QL.ite (h _ h9) QL.bad
theorem QL.make {items : Int} {ok : Bool} (h : r.l.length ≤ 100000) : QL (makes S now key items ok r E) := QL.ite (QL.one h) QL.bad
theorem short_of (hf : Fine S res) (hq : QL res) : Short res := by
 cases res with
 |error w => exact ⟨by show (0 : Nat) ≤ _; omega, by show (0 : Nat) ≤ _; omega⟩
 |ok p => exact ⟨hq _ _ rfl, (hf _ _ rfl).2.1⟩
end
end Go.Proofs.YtjnijlnmbjjgpaaGreatDoor
namespace Go.Proofs.YtjnijlnmbjjgpaaGreatDoor
open Go Go.Sx C
section
variable {h0 h h1 h' : Heap} {xb i : Nat} {now n m : Int} {kv av lv pv lw rv : Value} {k : List RX} {A : List ByteArray} {L E : List Eff} {why key s u nm : ByteArray} {t : Thing} {M : List En} {T : List Nat} {res : Res}
theorem rmember_calls (x : As h0 h (aT xb t pv lw rv key kv now av lv L why)) (g : RG9 h0 kv k av A key t pv lw rv) : CallsH Tryz.prog 122 [ptr xb, .string nm] h
  (Ret fun r h' => ((nm ∉ t.list ∧ r = .bool false) ∨ (nm ∈ t.list ∧ r = .bool true)) ∧ h' = h) := by
 have w := x.st
 have hsl := (th_lists (g.th h (x.base w))).2.1
 obtain ⟨la, lc, rfl, _⟩ := hsl.form
 have ln : t.list.length ≤ 2000 := g.t9.ls
 refine f122_calls (by simp) ?_
 refine loop_intro (fun i : Nat => [(0, ptr xb), (1, .string nm), (5, .int .i64 i)]) (fun i h' => i ≤ t.list.length ∧ (∀ j (hj : j < t.list.length), j < i → t.list[j] ≠ nm) ∧ h' = h) (fun i => t.list.length - i) 0
  ⟨rfl, rfl, rfl, trivial⟩ ⟨Nat.zero_le _, fun j _ h => absurd h (by omega), rfl⟩ ?_
 rintro i h4 ⟨hi, hall, e⟩
 have e := e.symm
 subst e
 refine w.ldr9 0 rfl rfl ?_
 refine Ai rfl (Ai (fun hlt => ?_) (fun hge => ?_))
 ·have hlt : i < t.list.length := by omega
  obtain ⟨b, o, rfl⟩ := hsl.addr (by omega)
  have hcs := hsl.cells encS_len (List.getElem?_eq_getElem hlt)
  refine w.ldr9 0 rfl rfl ?_
  refine Ai (by omega) (Ai (by omega) (Ei _ (Ai (by simpa using hcs 0 _ rfl) ?_)))
  refine Ai (fun he => ?_) (fun hne => ?_)
  ·exact ⟨.inr ⟨by rw [← he]; exact List.getElem_mem hlt, rfl⟩, rfl⟩
  ·refine Ai rfl (fun z hz => ?_)
   have hz := add_in hz (by omega) (by omega)
   subst hz
   refine Ai rfl (Ei (i + 1) (Ai ⟨rfl, rfl, rfl, trivial⟩ (Ai ⟨hlt, fun j hj h => ?_, rfl⟩ (by omega))))
   rcases Nat.lt_or_ge j i with h3 | h3
   ·exact hall j hj h3
   ·obtain rfl : j = i := by omega
    exact hne
 ·refine ⟨.inl ⟨fun hm => ?_, rfl⟩, rfl⟩
  obtain ⟨j, hj, he⟩ := List.mem_iff_getElem.1 hm
  exact hall j hj (by omega) he
theorem rthere4_calls (x : As h0 h (aT xb t pv lw rv key kv now av lv L why)) (g : RG9 h0 kv k av A key t pv lw rv) : CallsH Tryz.prog 125 [ptr xb, .int .i64 4, .string nm] h
  (Ret fun r h' => ((thereL t.list nm = false ∧ r = .bool false) ∨ (thereL t.list nm = true ∧ r = .bool true)) ∧ h' = h) := by
 refine f125_calls (by simp) ?_
 refine Ai rfl (Ai (fun he => absurd he (by decide)) (fun _ => ?_))
 refine Ai rfl (Ai (fun _ => ?_) (fun hne => absurd rfl hne))
 refine call_ret (rmember_calls x g) ?_
 rintro _ h2 ⟨hr, e⟩
 have e := e.symm
 subst e
 rcases hr with ⟨hf, rfl⟩ | ⟨hf, rfl⟩
 ·exact ⟨.inl ⟨decide_eq_false hf, rfl⟩, rfl⟩
 ·exact ⟨.inr ⟨decide_eq_true hf, rfl⟩, rfl⟩
theorem rahead_calls {p f0 st : Nat} (x : As h0 h (aT xb t pv lw rv key kv now av lv L why)) (c : RC9 h0 kv k av A) (hA : A.length ≤ 20) (hp : p < A.length) (hst : 1 ≤ st) (hs2 : st ≤ 2) : CallsH Tryz.prog 126 [ptr xb, .int .i64 p, .int .i64 f0, .int .i64 st] h
  (Ret fun r h' => (((∀ q, f0 + q * st < p → A[f0 + q * st]? ≠ A[p]?) ∧ r = .bool false) ∨ ((∃ q, f0 + q * st < p ∧ A[f0 + q * st]? = A[p]?) ∧ r = .bool true)) ∧ h' = h) := by
 have w := x.st
 obtain ⟨b, o, cc, rfl⟩ := c.argF (by omega)
 refine f126_calls (by simp) ?_
 refine loop_intro (fun q : Nat => [(0, ptr xb), (1, .int .i64 p), (3, .int .i64 st), (9, .int .i64 ((f0 + q * st : Nat) : Int))]) (fun q h' => (∀ j, j < q → f0 + j * st < p → A[f0 + j * st]? ≠ A[p]?) ∧ h' = h) (fun q => p + st - (f0 + q * st)) 0
  ⟨rfl, rfl, rfl, by show _ = some (Value.int .i64 ((f0 + 0 * st : Nat) : Int)); rw [Nat.zero_mul]; rfl, trivial⟩ ⟨fun j h => absurd h (by omega), rfl⟩ ?_
 rintro q h4 ⟨hall, e⟩
 have e := e.symm
 subst e
 refine Ai rfl (Ai (fun hlt => ?_) (fun hge => ?_))
 ·have hlt : f0 + q * st < p := by omega
  refine w.ldr9 0 rfl rfl ?_
  refine c.ix (x.base w) (f0 + q * st) rfl (List.getElem?_eq_getElem (by omega)) ?_
  refine w.ldr9 0 rfl rfl ?_
  refine c.ix (x.base w) p rfl (List.getElem?_eq_getElem hp) ?_
  refine Ai (fun he => ?_) (fun hne => ?_)
  ·exact ⟨.inr ⟨⟨q, hlt, by rw [List.getElem?_eq_getElem (by omega), List.getElem?_eq_getElem hp, he]⟩, rfl⟩, rfl⟩
  ·refine Ai rfl (fun z hz => ?_)
   have hm : (q + 1) * st = q * st + st := Nat.succ_mul q st
   have hz : z = ((f0 + (q + 1) * st : Nat) : Int) := (hz.trans (wrap_in (by omega) (by omega))).trans (by omega)
   subst hz
   refine Ai rfl (Ei (q + 1) (Ai ⟨rfl, rfl, rfl, rfl, trivial⟩ (Ai ⟨fun j hj h => ?_, rfl⟩ (by omega))))
   rcases Nat.lt_or_ge j q with h3 | h3
   ·exact hall j h3 h
   ·obtain rfl : j = q := by omega
    rw [List.getElem?_eq_getElem (by omega), List.getElem?_eq_getElem hp]
    exact fun he => hne (Option.some.inj he)
 ·refine ⟨.inl ⟨fun j hj => hall j ?_ hj, rfl⟩, rfl⟩
  rcases Nat.lt_or_ge j q with h3 | h3
  ·exact h3
  ·have := Nat.mul_le_mul_right st h3
   omega
end
end Go.Proofs.YtjnijlnmbjjgpaaGreatDoor
namespace Go.Proofs.YtjnijlnmbjjgpaaGreatDoor
open Go Go.Sx C
section
variable {h0 h h1 h' : Heap} {xb i : Nat} {now n m : Int} {kv av lv pv lw rv : Value} {k : List RX} {A l : List ByteArray} {L E : List Eff} {why key s u nm : ByteArray} {t : Thing} {M : List En} {T : List Nat} {res : Res}
theorem ahead_in9 {q : Nat} (hq : q < l.length) (h : ∃ j, 1 + j * 1 < q + 1 ∧ (key :: l)[1 + j * 1]? = (key :: l)[q + 1]?) : l[q] ∈ l.take q := by
 obtain ⟨j, h1, h2⟩ := h
 have e : 1 + j * 1 = j + 1 := by omega
 rw [e, List.getElem?_cons_succ, List.getElem?_cons_succ, List.getElem?_eq_getElem (by omega), List.getElem?_eq_getElem hq] at h2
 rw [← Option.some.inj h2]
 exact List.mem_iff_getElem.2 ⟨j, by rw [List.length_take]; omega, by rw [List.getElem_take]⟩
theorem ahead_no9 {q : Nat} (hq : q < l.length) (h : ∀ j, 1 + j * 1 < q + 1 → (key :: l)[1 + j * 1]? ≠ (key :: l)[q + 1]?) : l[q] ∉ l.take q := by
 intro hm
 obtain ⟨j, hj, he⟩ := List.mem_iff_getElem.1 hm
 rw [List.length_take] at hj
 rw [List.getElem_take] at he
 refine h j (by omega) ?_
 have e : 1 + j * 1 = j + 1 := by omega
 rw [e, List.getElem?_cons_succ, List.getElem?_cons_succ, List.getElem?_eq_getElem (by omega), List.getElem?_eq_getElem hq, he]
set_option maxHeartbeats 1000000 in
theorem raway_calls {kd op : Int} {th : ByteArray → Bool} (hth : ∀ {h1 : Heap} {lv : Value} {L : List Eff} {nm : ByteArray}, As h0 h1 (aT xb t pv lw rv key kv now av lv L noText) → CallsH Tryz.prog 125 [ptr xb, .int .i64 kd, .string nm] h1 (Ret fun r h' => ((th nm = false ∧ r = .bool false) ∨ (th nm = true ∧ r = .bool true)) ∧ h' = h1))
  (x : As h0 h (aT xb t pv lw rv key kv now av lv [] noText)) (g : RG9 h0 kv k av (key :: l) key t pv lw rv) : CallsH Tryz.prog 131 [ptr xb, .int .i64 kd, .int .i64 op] h
  (Ret (Reply9 h0 h xb t pv lw rv key kv now av lv (.ok (numR (hereL th l).length, (hereL th l).map fun n => ⟨op, key, n, noText, 0⟩)))) := by
 have al := g.al
 simp only [List.length_cons] at al
 obtain ⟨b, o, cc, rfl⟩ := g.c.argF (by simp)
 refine f131_calls (by simp) ?_
 intro b6 h1 g1
 have w := x.st.new g1
 have hlen : ∀ q, (newL (fun n => !th n) [] (l.take q)).length ≤ 20 := fun q => by
  have := newL_len (th := fun n => !th n) (l := l.take q) (pre := [])
  rw [List.length_take] at this
  omega
 obtain ⟨mk', hmk⟩ : ∃ mk' : ByteArray → Eff, mk' = fun n => ⟨op, key, n, noText, 0⟩ := ⟨_, rfl⟩
 refine loop_intro (fun q : Nat × Value => [(0, ptr xb), (1, .int .i64 kd), (2, .int .i64 op), (6, ptr b6), (7, .int .i64 ((newL (fun n => !th n) [] (l.take q.1)).length : Nat)), (8, .int .i64 ((q.1 + 1 : Nat) : Int))])
  (fun q h' => q.1 ≤ l.length ∧ St (xb :: vblk lv) h h' [.b b6 [.int .i64 0, .int .i64 0, .string ⟨#[]⟩, .slice none 0 0], aT xb t pv lw rv key kv now (.slice (some ⟨b, o, none⟩) (key :: l).length cc) q.2 ((newL (fun n => !th n) [] (l.take q.1)).map mk') noText])
  (fun q => l.length - q.1) (0, lv) ⟨rfl, rfl, rfl, rfl, rfl, rfl, trivial⟩ ⟨Nat.zero_le _, w⟩ ?_
 rintro ⟨q, lq⟩ h4 ⟨hq, w⟩
 have hq : q ≤ l.length := hq
 have hl4 := hlen q
 have hl5 : (newL (fun n => !th n) [] (l.take (q, lq).1)).length ≤ 20 := hl4
 have w : St (xb :: vblk lv) h h4 [.b b6 [.int .i64 0, .int .i64 0, .string ⟨#[]⟩, .slice none 0 0], aT xb t pv lw rv key kv now (.slice (some ⟨b, o, none⟩) (key :: l).length cc) lq ((newL (fun n => !th n) [] (l.take q)).map mk') noText] := w
 refine w.ldr9 1 rfl rfl ?_
 refine Ai rfl (Ai (fun hlt => ?_) (fun hge => ?_))
 ·have hlt : q < l.length := by simp only [List.length_cons] at hlt; omega
  have hsn := newL_snoc (th := fun n => !th n) hlt
  have next : ∀ {h5 : Heap} {lv2 : Value} {c : Bool}, (!(!th l[q]) && decide (l[q] ∉ l.take q)) = c → St (xb :: vblk lv) h h5 [.b b6 [.int .i64 0, .int .i64 0, .string ⟨#[]⟩, .slice none 0 0], aT xb t pv lw rv key kv now (.slice (some ⟨b, o, none⟩) (key :: l).length cc) lv2 ((newL (fun n => !th n) [] (l.take q)).map mk' ++ (if c = true then [mk' l[q]] else [])) noText] →
    St (xb :: vblk lv) h h5 [.b b6 [.int .i64 0, .int .i64 0, .string ⟨#[]⟩, .slice none 0 0], aT xb t pv lw rv key kv now (.slice (some ⟨b, o, none⟩) (key :: l).length cc) lv2 ((newL (fun n => !th n) [] (l.take (q + 1))).map mk') noText] := fun {h5 lv2 c} hc w => by
   rw [hsn, hc]
   cases c with
   |true => rw [if_pos rfl] at w ⊢; rw [List.map_append]; exact w
   |false => rw [if_neg (by decide)] at w ⊢; rw [List.map_append]; exact w
  refine w.ldr9 1 rfl rfl ?_
  refine g.c.ix (x.base w) (q + 1) rfl (s := l[q]) (by simp [hlt]) ?_
  refine call_ret (hth (x.out w 1 rfl).1) ?_
  rintro _ h5 ⟨hr, e5⟩
  have e5 := e5.symm
  subst e5
  have no : (!(!th l[q]) && decide (l[q] ∉ l.take q)) = false → St (xb :: vblk lv) h h4 [.b b6 [.int .i64 0, .int .i64 0, .string ⟨#[]⟩, .slice none 0 0], aT xb t pv lw rv key kv now (.slice (some ⟨b, o, none⟩) (key :: l).length cc) lq ((newL (fun n => !th n) [] (l.take (q + 1))).map mk') noText] ∧ (newL (fun n => !th n) [] (l.take (q + 1))).length = (newL (fun n => !th n) [] (l.take q)).length := fun hc =>
   ⟨next hc (by rw [if_neg (by decide), List.append_nil]; exact w), by rw [hsn, hc, if_neg (by decide), List.append_nil]⟩
  rcases hr with ⟨hf, rfl⟩ | ⟨hf, rfl⟩
  ·obtain ⟨w, hln⟩ := no (by rw [hf]; rfl)
   refine Ai rfl (fun z hz => ?_)
   have hz := add_in hz (by omega) (by omega)
   subst hz
   exact Ai rfl (Ei (q + 1, _) (Ai ⟨rfl, rfl, rfl, rfl, by rw [hln]; rfl, rfl, trivial⟩ (Ai ⟨hlt, w⟩ (by simp only; omega))))
  ·refine call_ret (rahead_calls (p := q + 1) (f0 := 1) (st := 1) (x.out w 1 rfl).1 g.c (by simp only [List.length_cons]; omega) (by simp only [List.length_cons]; omega) (Nat.le_refl _) (by omega)) ?_
   rintro _ h6 ⟨hr, e6⟩
   have e6 := e6.symm
   subst e6
   rcases hr with ⟨ha, rfl⟩ | ⟨ha, rfl⟩
   ·have hc : (!(!th l[q]) && decide (l[q] ∉ l.take q)) = true := by rw [hf, decide_eq_true (ahead_no9 hlt ha)]; rfl
    refine Ai rfl (fun z hz => ?_)
    have hz := add_in hz (by omega) (by omega)
    subst hz
    refine w.ldr9 1 rfl rfl ?_
    refine g.c.ix (x.base w) (q + 1) rfl (s := l[q]) (by simp [hlt]) ?_
    refine call_ret (rtake9_calls (x.out w 1 rfl).1 (by simp only [List.length_map]; omega)) ?_
    rintro _ h7 ⟨lv2, _, o7⟩
    have w := w.own 1 rfl o7
    have w := next hc (by rw [if_pos rfl, hmk]; rw [hmk] at w; exact w)
    have hln : (newL (fun n => !th n) [] (l.take (q + 1))).length = (newL (fun n => !th n) [] (l.take q)).length + 1 := by rw [hsn, hc, if_pos rfl]; simp
    refine Ai rfl (fun z hz => ?_)
    have hz := add_in hz (by omega) (by omega)
    subst hz
    exact Ai rfl (Ei (q + 1, _) (Ai ⟨rfl, rfl, rfl, rfl, by rw [hln]; rfl, rfl, trivial⟩ (Ai ⟨hlt, w⟩ (by simp only; omega))))
   ·obtain ⟨w, hln⟩ := no (by rw [decide_eq_false (fun hn => hn (ahead_in9 hlt ha)), Bool.and_false])
    refine Ai rfl (fun z hz => ?_)
    have hz := add_in hz (by omega) (by omega)
    subst hz
    exact Ai rfl (Ei (q + 1, _) (Ai ⟨rfl, rfl, rfl, rfl, by rw [hln]; rfl, rfl, trivial⟩ (Ai ⟨hlt, w⟩ (by simp only; omega))))
 ·have hkl : q = l.length := by simp only [List.length_cons] at hge; omega
  subst hkl
  refine w.callv rInt9_calls fun h6 w => ?_
  refine w.st1 0 rfl rfl rfl rfl fun h7 w => ?_
  rw [List.take_length] at w
  exact Reply9.fin x w 0 1 rfl rfl (Jd9.ok (by rw [hmk]; unfold hereL; rfl))
end
end Go.Proofs.YtjnijlnmbjjgpaaGreatDoor
namespace Go.Proofs.YtjnijlnmbjjgpaaGreatDoor
open Go Go.Sx C
def hT (n s : ByteArray) : Thing := ⟨2, noText, [⟨n, s⟩], [], [], false, 0⟩
section
variable {key n s t : ByteArray} {now z : Int} {u : Thing} {e : Eff} {r : Rule}
end
end Go.Proofs.YtjnijlnmbjjgpaaGreatDoor
namespace Go.Proofs.YtjnijlnmbjjgpaaGreatDoor
open Go Go.Sx C
section
variable {h : Heap} {kb sb mb : Nat} {now z : Int} {av : Value} {key n s : ByteArray}
end
end Go.Proofs.YtjnijlnmbjjgpaaGreatDoor
namespace Go.Proofs.YtjnijlnmbjjgpaaGreatDoor
open Go Go.Sx C
section
variable {h0 h h1 h' : Heap} {xb i : Nat} {now n m : Int} {kv av lv pv lw rv : Value} {k : List RX} {A l : List ByteArray} {L E : List Eff} {why key s u nm : ByteArray} {t : Thing} {M : List En} {T : List Nat} {res : Res}
end
end Go.Proofs.YtjnijlnmbjjgpaaGreatDoor
namespace Go.Proofs.YtjnijlnmbjjgpaaGreatDoor
open Go Go.Sx C
section
variable {h0 h h1 h' : Heap} {xb i : Nat} {now n m : Int} {kv av lv pv lw rv : Value} {k : List RX} {A l : List ByteArray} {L E : List Eff} {why key s u nm : ByteArray} {t : Thing} {M : List En} {T : List Nat} {res : Res}
end
end Go.Proofs.YtjnijlnmbjjgpaaGreatDoor
namespace Go.Proofs.YtjnijlnmbjjgpaaGreatDoor
open Go Go.Sx C
set_option maxHeartbeats 1000000 in
theorem rdoS_calls {h : Heap} {kv av : Value} {k : List RX} {now lo hi wh : Int} {w N : ByteArray} {A : List ByteArray} {res : Res} (hsl : SL encX h kv k) (hgx : GX h k) (hup : UpX k) (hlen : k.length < 4611686018427387904) (hfit : KeysFit k)
  (hA : SL encS h av (w :: A)) (hal : A.length + 1 ≤ 20) (hzw : w.size ≤ 300) (hz : ∀ s ∈ A, s.size ≤ 300) (hN : up w = N) (hb : BoundR9 N lo hi 4 wh) (hlo : 1 ≤ lo) (hn1 : N ≠ qHSET) (hn2 : N ≠ qZADD) (hn3 : N ≠ qSINTER)
  (hout : ¬ (lo ≤ A.length ∧ (A.length : Int) ≤ hi) → res = .error wArgs)
  (hnum : lo ≤ A.length → (A.length : Int) ≤ hi → (∃ j, 1 ≤ j ∧ j < A.length ∧ need9 wh j ∧ (A[j]?.bind numOf) = none) → res = .error wNum)
  (hkd : lo ≤ A.length → (A.length : Int) ≤ hi → NumsOk wh A → ∀ key, A[0]? = some key → okK 4 (getS (k.map RX.pr) key now) = false → res = .error wType)
  (ht9 : ∀ key, T9 ((getS (k.map RX.pr) key now).getD zeroT))
  (hf : ∀ {h1 : Heap} {xb : Nat} {av' pv lw rv : Value} {key : ByteArray}, A[0]? = some key → lo ≤ A.length → (A.length : Int) ≤ hi → NumsOk wh A → okK 4 (getS (k.map RX.pr) key now) = true → RG9 h kv k av' A key ((getS (k.map RX.pr) key now).getD zeroT) pv lw rv →
   As h h1 (aT xb ((getS (k.map RX.pr) key now).getD zeroT) pv lw rv key kv now av' (.slice none 0 0) [] noText) →
   CallsH Tryz.prog 62 [ptr xb, .string N] h1 (Ret (Reply9 h h1 xb ((getS (k.map RX.pr) key now).getD zeroT) pv lw rv key kv now av' (.slice none 0 0) res))) :
  CallsH Tryz.prog 31 [kv, .int .i64 now, av] h (Ret (DoR h res)) := by
 obtain ⟨ka, kc, rfl, _⟩ := hsl.form
 obtain ⟨a, cc, rfl, hcc⟩ := hA.form
 obtain ⟨b0, o0, rfl⟩ := hA.addr (by simp)
 have hl : (w :: A).length ≤ 20 := hal
 refine f31_calls (by simp) ?_
 intro b6 h1 g1
 have w1 := (St.start h).new g1
 refine Ai rfl (Ai (fun h0 => absurd h0 (by simp; omega)) (fun _ => ?_))
 have hc0 := (hA.ext w1.chg).cells encS_len (i := 0) (x := w) (by simp)
 refine Ai (by decide) (Ai (by simp) (Ei _ (Ai (by simpa using hc0 0 _ rfl) ?_)))
 refine w1.callv (rword_calls (by omega)) fun h2 w2 => ?_
 rw [hN]
 refine callp (hb h2) ?_
 refine Ai (by decide) (Ai (by simp only [List.length_cons]; omega) (Ai (by omega) ?_))
 refine sl_slc (lo := 1) (hi := (w :: A).length) encS_len (hA.ext w2.chg) (by simp) (Nat.le_refl _) fun v1 hv1 => ?_
 have e1 : ((w :: A).drop 1).take ((w :: A).length - 1) = A := by simp
 rw [e1] at hv1
 obtain ⟨a1, cc1, rfl, hcc1⟩ := (hv1 h hA).form
 intro xb h5 g5
 have w5 := w2.new g5
 have z2 := w2.chg.size
 have i5 := g5.id
 have c : RC9 h (.slice ka k.length kc) k (.slice a1 A.length cc1) A := ⟨hsl, hgx, hup, hlen, hfit, fun h' hc => hv1 h' (hA.ext hc)⟩
 have nomem : xb ∉ vblk (.slice none 0 0) := fun hm => (nomatch (show xb ∈ ([] : List Nat) from hm))
 have w : St [] h h5 [aT xb zeroT (.slice none 0 0) (.slice none 0 0) (.slice none 0 0) noText (.slice ka k.length kc) now (.slice a1 A.length cc1) (.slice none 0 0) [] noText, .b b6 [.int .i64 0, .int .i64 0, .string ⟨#[]⟩, .slice none 0 0]] :=
  w5.set 0 rfl (Chg.refl _) (by simp) ⟨w5.get 0 rfl, OL.nil, nomem⟩ (fun b hb => by
   rcases List.mem_cons.1 hb with rfl | hb
   ·exact .inl (by simp [En.fp])
   ·exact (nomatch (show b ∈ ([] : List Nat) from hb)))
 refine call_ret (rmany9_calls c (w.as 0 rfl)) ?_
 rintro _ h6 (⟨m1, m2, rfl, _, o6⟩ | ⟨mn, rfl, _, o6⟩)
 rotate_left
 ·have w := w.own 0 rfl o6
  refine w.ldr9 0 rfl rfl ?_
  refine w.callv rFail9_calls fun h7 w => ?_
  refine w.st1 1 rfl rfl rfl rfl fun h8 w => ?_
  rw [hout mn]
  exact ⟨_, rfl, cells_blk (w.get 1 rfl), w.chg, rfl⟩
 have w := w.own 0 rfl o6
 refine Ai (fun he => absurd he hn1) (fun _ => ?_)
 refine Ai (fun he => absurd he hn2) (fun _ => ?_)
 refine call_ret (rnums9_calls c (w.as 0 rfl) (by omega) hz) ?_
 rintro _ h7 (⟨hall, rfl, _, o7⟩ | ⟨hbad, rfl, _, o7⟩)
 rotate_left
 ·have w := w.own 0 rfl o7
  refine w.ldr9 0 rfl rfl ?_
  refine w.callv rFail9_calls fun h8 w => ?_
  refine w.st1 1 rfl rfl rfl rfl fun h9 w => ?_
  rw [hnum m1 m2 hbad]
  exact ⟨_, rfl, cells_blk (w.get 1 rfl), w.chg, rfl⟩
 have w := w.own 0 rfl o7
 have hpos : 0 < A.length := by omega
 obtain ⟨key, hkey⟩ : ∃ key, A[0]? = some key := ⟨_, List.getElem?_eq_getElem hpos⟩
 have hks : key.size ≤ 300 := hz key (List.mem_of_getElem? hkey)
 obtain ⟨b1, o1, cc2, he1⟩ := c.argF hpos
 obtain ⟨rfl, _, rfl⟩ := Value.slice.inj he1
 refine w.ldr9 0 rfl rfl ?_
 refine c.ix (w.chg) 0 rfl hkey ?_
 refine w.stK9 0 rfl fun h8 w => ?_
 intro b17 h9 g9
 have w := w.new g9
 refine Ai (fun he => absurd he hn3) (fun _ => ?_)
 refine call_ret (rof9_calls (kd := 4) c (w.as 1 rfl) (by omega)) ?_
 rintro _ h10 ⟨pv, lw, rv, rfl, hth, _, o10⟩
 have w := w.own 1 rfl o10
 have l6 : b6 < h10.size := (show Blk h10 b6 _ from w.get 2 rfl).lt
 have l17 : b17 < h10.size := (show Blk h10 b17 _ from w.get 0 rfl).lt
 have fail : ∀ {h' : Heap} {why : ByteArray} {t' : Thing} {pv' lw' rv' lv' : Value} {key' : ByteArray} {E : List Eff} {r17 : List Value}, why ≠ noText → res = .error why → St [] h h' [.b b17 r17, aT xb t' pv' lw' rv' key' (.slice ka k.length kc) now (.slice (some ⟨b1, o1, none⟩) A.length cc1) lv' E why, .b b6 [.int .i64 0, .int .i64 0, .string ⟨#[]⟩, .slice none 0 0]] →
   swp Tryz.prog (.seq (.seq (.ops f31r28) (.cond (.tmp 130) (.seq (.ops f31r29) .ret) .skip)) (.seq (.two f31p30 f31r30 f31s30) .ret)) (retQ [.cn 6 4, .t 7, .t 8] (Ret (DoR h res))) (mk [(6, ptr b6), (15, ptr xb), (17, ptr b17)]) [] h' := by
  intro h' why t' pv' lw' rv' lv' key' E r17 hw hr w
  refine w.ldr9 1 rfl rfl ?_
  refine Ai (fun _ => ?_) (fun h9 => absurd (fun e => hw e) h9)
  refine w.ldr9 1 rfl rfl ?_
  refine w.callv rFail9_calls fun h10 w => ?_
  refine w.st1 2 rfl rfl rfl rfl fun h11 w => ?_
  rw [hr]
  exact ⟨_, rfl, cells_blk (w.get 2 rfl), w.chg, rfl⟩
 cases hok : okK 4 (getS (k.map RX.pr) key now) with
 |false =>
  rw [hok] at w
  exact cut_at [(6, ptr b6), (15, ptr xb), (17, ptr b17)] ⟨rfl, rfl, rfl, trivial⟩ (fail (why := wType) (by decide) (hkd m1 m2 hall key hkey hok) w)
 |true =>
  rw [hok] at w
  refine Ai rfl (Ai (fun he => absurd he (by decide)) (fun _ => ?_))
  refine Ai rfl (Ai (fun he => absurd he (by decide)) (fun _ => ?_))
  refine Ai rfl (Ai (fun _ => ?_) (fun he => absurd rfl he))
  refine call_ret (hf hkey m1 m2 hall hok ⟨c, hth, ht9 key, hks, hz, by omega⟩ (w.as 1 rfl)) ?_
  rintro _ h11 ⟨q, lv', E, why, ⟨ra, rn, rc, rfl, sl, fr⟩, ⟨t', pv', lw', rv', key', _, o11⟩, hd⟩
  have w := w.own 1 rfl o11
  refine w.st2 0 rfl rfl rfl rfl fun h12 w k12 => ?_
  have sl12 : SL encQ h12 (.slice ra rn rc) q.l := sl.chg k12 (fun b hb => by have := fr b hb; simp; omega)
  rcases hd with ⟨rfl, hd⟩ | ⟨hne, hd⟩
  ·refine w.ldr9 1 rfl rfl ?_
   refine Ai (fun h9 => absurd rfl h9) (fun _ => ?_)
   obtain ⟨la, lc, rfl⟩ := w.rform9 1 rfl
   have fin : ∀ {h' : Heap}, St [] h h' [.b b17 [.int .i64 q.k, .int .i64 q.i, .string q.s, .slice ra rn rc], aT xb t' pv' lw' rv' key' (.slice ka k.length kc) now (.slice (some ⟨b1, o1, none⟩) A.length cc1) (.slice la E.length lc) E noText, .b b6 [.int .i64 q.k, .int .i64 q.i, .string q.s, .slice ra rn rc]] → Chg [b6] h12 h' →
     ∃ vs, vs.length = 4 ∧ Cells h' b6 0 vs ∧ DoR h res (.tuple ⟨[.agg ⟨vs⟩, .slice la E.length lc, .bool true]⟩) h' := fun w k => by
    rw [hd]
    refine ⟨_, rfl, cells_blk (w.get 2 rfl), w.chg, _, _, rfl, ⟨ra, rn, rc, rfl, sl12.chg k (fun b hb => by have := fr b hb; simp; omega), fun _ _ => Nat.zero_le _⟩, (w.get 1 rfl).2.1.sl, fun b hb => ?_⟩
    rcases (w.ents 1 _ rfl).2 b (List.mem_cons_of_mem _ hb) with h1 | h1
    ·cases h1
    ·exact h1
   refine w.ldw 0 rfl rfl ?_
   refine Ai ?_ ?_
   ·refine w.ldr9 1 rfl rfl ?_
    refine w.st2 2 rfl rfl rfl rfl fun h13 w k13 => ?_
    exact fin w k13
   ·refine w.st2 2 rfl rfl rfl rfl fun h13 w k13 => ?_
    refine w.ldr9 1 rfl rfl ?_
    exact fin w k13
  ·exact cut_at [(6, ptr b6), (15, ptr xb), (17, ptr b17)] ⟨rfl, rfl, rfl, trivial⟩ (fail hne hd w)
theorem rb_SADD : BoundR9 qSADD 2 65536 4 0 := fun h => by
 refine f55_calls (by simp) ?_
 refine Ai (fun he => absurd he (by decide)) (fun _ => ?_)
 refine Ai (fun he => absurd he (by decide)) (fun _ => ?_)
 refine Ai (fun he => absurd he (by decide)) (fun _ => ?_)
 refine Ai (fun he => absurd he (by decide)) (fun _ => ?_)
 refine Ai (fun he => absurd he (by decide)) (fun _ => ?_)
 refine Ai (fun he => absurd he (by decide)) (fun _ => ?_)
 refine Ai (fun he => absurd he (by decide)) (fun _ => ?_)
 refine Ai (fun he => absurd he (by decide)) (fun _ => ?_)
 refine Ai (fun he => absurd he (by decide)) (fun _ => ?_)
 refine Ai (fun he => absurd he (by decide)) (fun _ => ?_)
 refine Ai (fun he => absurd he (by decide)) (fun _ => ?_)
 refine Ai (fun he => absurd he (by decide)) (fun _ => ?_)
 refine Ai (fun he => absurd he (by decide)) (fun _ => ?_)
 refine Ai (fun he => absurd he (by decide)) (fun _ => ?_)
 refine Ai (fun _ => ?_) (fun he => absurd rfl he)
 exact ⟨rfl, rfl⟩
theorem rb_SREM : BoundR9 qSREM 2 65536 4 0 := fun h => by
 refine f55_calls (by simp) ?_
 refine Ai (fun he => absurd he (by decide)) (fun _ => ?_)
 refine Ai (fun he => absurd he (by decide)) (fun _ => ?_)
 refine Ai (fun he => absurd he (by decide)) (fun _ => ?_)
 refine Ai (fun he => absurd he (by decide)) (fun _ => ?_)
 refine Ai (fun he => absurd he (by decide)) (fun _ => ?_)
 refine Ai (fun he => absurd he (by decide)) (fun _ => ?_)
 refine Ai (fun he => absurd he (by decide)) (fun _ => ?_)
 refine Ai (fun he => absurd he (by decide)) (fun _ => ?_)
 refine Ai (fun he => absurd he (by decide)) (fun _ => ?_)
 refine Ai (fun he => absurd he (by decide)) (fun _ => ?_)
 refine Ai (fun he => absurd he (by decide)) (fun _ => ?_)
 refine Ai (fun he => absurd he (by decide)) (fun _ => ?_)
 refine Ai (fun he => absurd he (by decide)) (fun _ => ?_)
 refine Ai (fun he => absurd he (by decide)) (fun _ => ?_)
 refine Ai (fun he => absurd he (by decide)) (fun _ => ?_)
 refine Ai (fun _ => ?_) (fun he => absurd rfl he)
 exact ⟨rfl, rfl⟩
theorem rb_SISMEMBER : BoundR9 qSISMEMBER 2 2 4 0 := fun h => by
 refine f55_calls (by simp) ?_
 refine Ai (fun he => absurd he (by decide)) (fun _ => ?_)
 refine Ai (fun he => absurd he (by decide)) (fun _ => ?_)
 refine Ai (fun he => absurd he (by decide)) (fun _ => ?_)
 refine Ai (fun he => absurd he (by decide)) (fun _ => ?_)
 refine Ai (fun he => absurd he (by decide)) (fun _ => ?_)
 refine Ai (fun he => absurd he (by decide)) (fun _ => ?_)
 refine Ai (fun he => absurd he (by decide)) (fun _ => ?_)
 refine Ai (fun he => absurd he (by decide)) (fun _ => ?_)
 refine Ai (fun he => absurd he (by decide)) (fun _ => ?_)
 refine Ai (fun he => absurd he (by decide)) (fun _ => ?_)
 refine Ai (fun he => absurd he (by decide)) (fun _ => ?_)
 refine Ai (fun he => absurd he (by decide)) (fun _ => ?_)
 refine Ai (fun he => absurd he (by decide)) (fun _ => ?_)
 refine Ai (fun he => absurd he (by decide)) (fun _ => ?_)
 refine Ai (fun he => absurd he (by decide)) (fun _ => ?_)
 refine Ai (fun he => absurd he (by decide)) (fun _ => ?_)
 refine Ai (fun _ => ?_) (fun he => absurd rfl he)
 exact ⟨rfl, rfl⟩
theorem rb_SCARD : BoundR9 qSCARD 1 1 4 0 := fun h => by
 refine f55_calls (by simp) ?_
 refine Ai (fun he => absurd he (by decide)) (fun _ => ?_)
 refine Ai (fun he => absurd he (by decide)) (fun _ => ?_)
 refine Ai (fun he => absurd he (by decide)) (fun _ => ?_)
 refine Ai (fun he => absurd he (by decide)) (fun _ => ?_)
 refine Ai (fun he => absurd he (by decide)) (fun _ => ?_)
 refine Ai (fun he => absurd he (by decide)) (fun _ => ?_)
 refine Ai (fun he => absurd he (by decide)) (fun _ => ?_)
 refine Ai (fun he => absurd he (by decide)) (fun _ => ?_)
 refine Ai (fun he => absurd he (by decide)) (fun _ => ?_)
 refine Ai (fun he => absurd he (by decide)) (fun _ => ?_)
 refine Ai (fun he => absurd he (by decide)) (fun _ => ?_)
 refine Ai (fun he => absurd he (by decide)) (fun _ => ?_)
 refine Ai (fun he => absurd he (by decide)) (fun _ => ?_)
 refine Ai (fun he => absurd he (by decide)) (fun _ => ?_)
 refine Ai (fun he => absurd he (by decide)) (fun _ => ?_)
 refine Ai (fun he => absurd he (by decide)) (fun _ => ?_)
 refine Ai (fun he => absurd he (by decide)) (fun _ => ?_)
 refine Ai (fun _ => ?_) (fun he => absurd rfl he)
 exact ⟨rfl, rfl⟩
theorem rb_SMEMBERS : BoundR9 qSMEMBERS 1 1 4 0 := fun h => by
 refine f55_calls (by simp) ?_
 refine Ai (fun he => absurd he (by decide)) (fun _ => ?_)
 refine Ai (fun he => absurd he (by decide)) (fun _ => ?_)
 refine Ai (fun he => absurd he (by decide)) (fun _ => ?_)
 refine Ai (fun he => absurd he (by decide)) (fun _ => ?_)
 refine Ai (fun he => absurd he (by decide)) (fun _ => ?_)
 refine Ai (fun he => absurd he (by decide)) (fun _ => ?_)
 refine Ai (fun he => absurd he (by decide)) (fun _ => ?_)
 refine Ai (fun he => absurd he (by decide)) (fun _ => ?_)
 refine Ai (fun he => absurd he (by decide)) (fun _ => ?_)
 refine Ai (fun he => absurd he (by decide)) (fun _ => ?_)
 refine Ai (fun he => absurd he (by decide)) (fun _ => ?_)
 refine Ai (fun he => absurd he (by decide)) (fun _ => ?_)
 refine Ai (fun he => absurd he (by decide)) (fun _ => ?_)
 refine Ai (fun he => absurd he (by decide)) (fun _ => ?_)
 refine Ai (fun he => absurd he (by decide)) (fun _ => ?_)
 refine Ai (fun he => absurd he (by decide)) (fun _ => ?_)
 refine Ai (fun he => absurd he (by decide)) (fun _ => ?_)
 refine Ai (fun he => absurd he (by decide)) (fun _ => ?_)
 refine Ai (fun _ => ?_) (fun he => absurd rfl he)
 exact ⟨rfl, rfl⟩
theorem rb_SINTER : BoundR9 qSINTER 1 65536 4 0 := fun h => by
 refine f55_calls (by simp) ?_
 refine Ai (fun he => absurd he (by decide)) (fun _ => ?_)
 refine Ai (fun he => absurd he (by decide)) (fun _ => ?_)
 refine Ai (fun he => absurd he (by decide)) (fun _ => ?_)
 refine Ai (fun he => absurd he (by decide)) (fun _ => ?_)
 refine Ai (fun he => absurd he (by decide)) (fun _ => ?_)
 refine Ai (fun he => absurd he (by decide)) (fun _ => ?_)
 refine Ai (fun he => absurd he (by decide)) (fun _ => ?_)
 refine Ai (fun he => absurd he (by decide)) (fun _ => ?_)
 refine Ai (fun he => absurd he (by decide)) (fun _ => ?_)
 refine Ai (fun he => absurd he (by decide)) (fun _ => ?_)
 refine Ai (fun he => absurd he (by decide)) (fun _ => ?_)
 refine Ai (fun he => absurd he (by decide)) (fun _ => ?_)
 refine Ai (fun he => absurd he (by decide)) (fun _ => ?_)
 refine Ai (fun he => absurd he (by decide)) (fun _ => ?_)
 refine Ai (fun he => absurd he (by decide)) (fun _ => ?_)
 refine Ai (fun he => absurd he (by decide)) (fun _ => ?_)
 refine Ai (fun he => absurd he (by decide)) (fun _ => ?_)
 refine Ai (fun he => absurd he (by decide)) (fun _ => ?_)
 refine Ai (fun he => absurd he (by decide)) (fun _ => ?_)
 refine Ai (fun _ => ?_) (fun he => absurd rfl he)
 exact ⟨rfl, rfl⟩
section
variable {S : Space} {now kd : Int} {key s u nm : ByteArray} {l : List ByteArray} {f : Thing → Res} {res : Res} {r : Rep} {E : List Eff} {a b : Res}
end
end Go.Proofs.YtjnijlnmbjjgpaaGreatDoor
namespace Go.Proofs.YtjnijlnmbjjgpaaGreatDoor
open Go Go.Sx C
def accS (S : Space) (key : ByteArray) (now : Int) (e : ByteArray → Eff) (ns : List ByteArray) : List Eff := if ns = [] then [] else dropsS S key now ++ ns.map e
theorem accS_next {S : Space} {key : ByteArray} {now : Int} {e : ByteArray → Eff} {ns : List ByteArray} {n : ByteArray} : preL S key now (accS S key now e ns) ++ [e n] = accS S key now e (ns ++ [n]) := by
 unfold accS preL
 rw [if_neg (by simp : ¬ ns ++ [n] = []), List.map_append]
 cases ns with
 |nil => simp
 |cons a ns =>
  have h1 : ¬ (a :: ns = []) := by simp
  have h2 : ¬ ((dropsS S key now ++ (a :: ns).map e).length = 0) := by simp only [List.length_append, List.map_cons, List.length_cons]; omega
  rw [if_neg h1, if_neg h2, List.append_assoc]
  rfl
theorem accS_len {S : Space} {key : ByteArray} {now : Int} {e : ByteArray → Eff} {ns : List ByteArray} (hl : ns.length ≤ 20) : (accS S key now e ns).length ≤ 100 := by
 unfold accS
 have := drops_len S key now
 split
 ·simp
 ·simp only [List.length_append, List.length_map]; omega
section
variable {h0 h h1 h' : Heap} {xb i : Nat} {now n m : Int} {kv av lv pv lw rv : Value} {k : List RX} {A l : List ByteArray} {L E : List Eff} {why key s u nm : ByteArray} {t : Thing} {M : List En} {T : List Nat} {res : Res}
theorem rscard_calls (x : As h0 h (aT xb t pv lw rv key kv now av lv [] noText)) (g : RG9 h0 kv k av A key t pv lw rv) : CallsH Tryz.prog 62 [ptr xb, .string ⟨#[83, 67, 65, 82, 68]⟩] h
  (Ret (Reply9 h0 h xb t pv lw rv key kv now av lv (.ok (numR t.list.length, [])))) := by
 refine f62_calls (by simp) ?_
 intro b4 h1 g1
 have w := x.st.new g1
 have hsl := fun h2 hc => (th_lists (g.th h2 hc)).2.1
 obtain ⟨la, lc, rfl, _⟩ := (hsl h0 (Chg.refl _)).form
 have ln : t.list.length ≤ 2000 := g.t9.ls
 refine Ai (fun he => absurd he (by decide)) (fun _ => ?_)
 refine Ai (fun he => absurd he (by decide)) (fun _ => ?_)
 refine Ai (fun he => absurd he (by decide)) (fun _ => ?_)
 refine Ai (fun _ => ?_) (fun he => absurd rfl he)
 refine w.ldr9 1 rfl rfl ?_
 refine w.callv rInt9_calls fun h2 w => ?_
 refine w.st1 0 rfl rfl rfl rfl fun h3 w => ?_
 exact Reply9.fin x w 0 1 rfl rfl (Jd9.ok rfl)
theorem rsmem_calls (x : As h0 h (aT xb t pv lw rv key kv now av lv [] noText)) (g : RG9 h0 kv k av A key t pv lw rv) : CallsH Tryz.prog 62 [ptr xb, .string ⟨#[83, 77, 69, 77, 66, 69, 82, 83]⟩] h
  (Ret (Reply9 h0 h xb t pv lw rv key kv now av lv (.ok (listR t.list, [])))) := by
 refine f62_calls (by simp) ?_
 intro b4 h1 g1
 have w := x.st.new g1
 have hsl := fun h2 hc => (th_lists (g.th h2 hc)).2.1
 obtain ⟨la, lc, rfl, _⟩ := (hsl h0 (Chg.refl _)).form
 have ln : t.list.length ≤ 2000 := g.t9.ls
 refine Ai (fun he => absurd he (by decide)) (fun _ => ?_)
 refine Ai (fun he => absurd he (by decide)) (fun _ => ?_)
 refine Ai (fun he => absurd he (by decide)) (fun _ => ?_)
 refine Ai (fun he => absurd he (by decide)) (fun _ => ?_)
 refine w.ldr9 1 rfl rfl ?_
 have l4 : b4 < h1.size := (show Blk h1 b4 _ from w.get 0 rfl).lt
 have z1 := w.chg.size
 refine call_ret (rtexts_calls (hsl _ (x.base w)) (by omega)) ?_
 rintro _ h5 ⟨⟨ra, rn, rc, rfl, sl, fr⟩, c5⟩
 have w := w.ext c5
 refine w.st2 0 rfl rfl rfl rfl fun h6 w k6 => ?_
 exact ⟨_, rfl, cells_blk (w.get 0 rfl), listR t.list, lv, [], noText, ⟨ra, rn, rc, rfl, sl.chg k6 (fun b hb => by have := fr b hb; simp; omega), fun b hb => by have := fr b hb; omega⟩, ⟨t, _, _, _, key, x.out w 1 rfl⟩, Jd9.ok rfl⟩
theorem rsis_calls (x : As h0 h (aT xb t pv lw rv key kv now av lv [] noText)) (g : RG9 h0 kv k av [key, s] key t pv lw rv) : CallsH Tryz.prog 62 [ptr xb, .string ⟨#[83, 73, 83, 77, 69, 77, 66, 69, 82]⟩] h
  (Ret (Reply9 h0 h xb t pv lw rv key kv now av lv (.ok (numR (if thereL t.list s = true then 1 else 0), [])))) := by
 refine f62_calls (by simp) ?_
 intro b4 h1 g1
 have w := x.st.new g1
 have hsl := fun h2 hc => (th_lists (g.th h2 hc)).2.1
 obtain ⟨la, lc, rfl, _⟩ := (hsl h0 (Chg.refl _)).form
 have ln : t.list.length ≤ 2000 := g.t9.ls
 obtain ⟨b, o, cc, rfl⟩ := g.c.argF (by simp)
 refine Ai (fun he => absurd he (by decide)) (fun _ => ?_)
 refine Ai (fun he => absurd he (by decide)) (fun _ => ?_)
 refine Ai (fun _ => ?_) (fun he => absurd rfl he)
 refine w.ldr9 1 rfl rfl ?_
 refine g.c.ix (x.base w) 1 rfl rfl ?_
 refine call_ret (rmember_calls (x.out w 1 rfl).1 g) ?_
 rintro _ h2 ⟨hr, e⟩
 have e := e.symm
 subst e
 rcases hr with ⟨hf, rfl⟩ | ⟨hf, rfl⟩
 ·refine w.callv rInt9_calls fun h4 w => ?_
  refine w.st1 0 rfl rfl rfl rfl fun h5 w => ?_
  exact Reply9.fin x w 0 1 rfl rfl (Jd9.ok (by rw [if_neg (by simpa [thereL] using hf)]; rfl))
 ·refine w.callv rInt9_calls fun h4 w => ?_
  refine w.st1 0 rfl rfl rfl rfl fun h5 w => ?_
  exact Reply9.fin x w 0 1 rfl rfl (Jd9.ok (by rw [if_pos (by simpa [thereL] using hf)]; rfl))
theorem rsrem_calls (x : As h0 h (aT xb t pv lw rv key kv now av lv [] noText)) (g : RG9 h0 kv k av (key :: l) key t pv lw rv) : CallsH Tryz.prog 62 [ptr xb, .string ⟨#[83, 82, 69, 77]⟩] h
  (Ret (Reply9 h0 h xb t pv lw rv key kv now av lv (.ok (numR (hereL (thereL t.list) l).length, (hereL (thereL t.list) l).map fun n => ⟨13, key, n, noText, 0⟩)))) := by
 refine f62_calls (by simp) ?_
 intro b4 h1 g1
 have w := x.st.new g1
 have hsl := fun h2 hc => (th_lists (g.th h2 hc)).2.1
 obtain ⟨la, lc, rfl, _⟩ := (hsl h0 (Chg.refl _)).form
 have ln : t.list.length ≤ 2000 := g.t9.ls
 refine Ai (fun he => absurd he (by decide)) (fun _ => ?_)
 refine Ai (fun _ => ?_) (fun he => absurd rfl he)
 refine call_ret (raway_calls (th := thereL t.list) (fun x => rthere4_calls x g) (x.out w 1 rfl).1 g) ?_
 rintro _ h2 ⟨q, lv', E, why, ⟨ra, rn, rc, rfl, sl, fr⟩, ⟨t', pv', lw', rv', key', _, o2⟩, hd⟩
 have l4 : b4 < h1.size := (show Blk h1 b4 _ from w.get 0 rfl).lt
 have z1 := w.chg.size
 have w := w.own 1 rfl o2
 refine w.st2 0 rfl rfl rfl rfl fun h3 w k3 => ?_
 exact ⟨_, rfl, cells_blk (w.get 0 rfl), q, lv', E, why, ⟨ra, rn, rc, rfl, sl.chg k3 (fun b hb => by have := fr b hb; simp; omega), fun b hb => by have := fr b hb; omega⟩, ⟨t', pv', lw', rv', key', x.out w 1 rfl⟩, hd⟩
set_option maxHeartbeats 1000000 in
theorem rsadd_calls (x : As h0 h (aT xb t pv lw rv key kv now av lv [] noText)) (g : RG9 h0 kv k av (key :: l) key t pv lw rv) : CallsH Tryz.prog 62 [ptr xb, .string ⟨#[83, 65, 68, 68]⟩] h
  (Ret (Reply9 h0 h xb t pv lw rv key kv now av lv (.ok (numR (newL (thereL t.list) [] l).length, accS (k.map RX.pr) key now (addE key) (newL (thereL t.list) [] l))))) := by
 have al := g.al
 simp only [List.length_cons] at al
 obtain ⟨b, o, cc, rfl⟩ := g.c.argF (by simp)
 refine f62_calls (by simp) ?_
 intro b4 h1 g1
 have w := x.st.new g1
 have hsl := fun h2 hc => (th_lists (g.th h2 hc)).2.1
 obtain ⟨la, lc, rfl, _⟩ := (hsl h0 (Chg.refl _)).form
 have ln : t.list.length ≤ 2000 := g.t9.ls
 have zk := g.ks
 have hnl : ∀ q, (newL (thereL t.list) [] (l.take q)).length ≤ 20 := fun q => by
  have := newL_len (th := thereL t.list) (l := l.take q) (pre := [])
  rw [List.length_take] at this
  omega
 refine Ai (fun _ => ?_) (fun he => absurd rfl he)
 refine loop_intro (fun q : Nat × Value => [(0, ptr xb), (4, ptr b4), (5, .int .i64 ((newL (thereL t.list) [] (l.take q.1)).length : Nat)), (6, .int .i64 ((q.1 + 1 : Nat) : Int))])
  (fun q h' => q.1 ≤ l.length ∧ St (xb :: vblk lv) h h' [.b b4 [.int .i64 0, .int .i64 0, .string ⟨#[]⟩, .slice none 0 0], aT xb t pv (.slice la t.list.length lc) rv key kv now (.slice (some ⟨b, o, none⟩) (key :: l).length cc) q.2 (accS (k.map RX.pr) key now (addE key) (newL (thereL t.list) [] (l.take q.1))) noText])
  (fun q => l.length - q.1) (0, lv) ⟨rfl, rfl, rfl, rfl, trivial⟩ ⟨Nat.zero_le _, w⟩ ?_
 rintro ⟨q, lq⟩ h4 ⟨hq, w⟩
 have hq : q ≤ l.length := hq
 have hn4 := hnl q
 have hn5 : (newL (thereL t.list) [] (l.take (q, lq).1)).length ≤ 20 := hn4
 have la2 := accS_len (S := k.map RX.pr) (key := key) (now := now) (e := addE key) hn4
 have w : St (xb :: vblk lv) h h4 [.b b4 [.int .i64 0, .int .i64 0, .string ⟨#[]⟩, .slice none 0 0], aT xb t pv (.slice la t.list.length lc) rv key kv now (.slice (some ⟨b, o, none⟩) (key :: l).length cc) lq (accS (k.map RX.pr) key now (addE key) (newL (thereL t.list) [] (l.take q))) noText] := w
 refine w.ldr9 1 rfl rfl ?_
 refine Ai rfl (Ai (fun hlt => ?_) (fun hge => ?_))
 ·have hlt : q < l.length := by simp only [List.length_cons] at hlt; omega
  have hsn := newL_snoc (th := thereL t.list) hlt
  have zn := g.az l[q] (List.mem_cons_of_mem _ (List.getElem_mem _))
  have sameL : (!thereL t.list l[q] && decide (l[q] ∉ l.take q)) = false → newL (thereL t.list) [] (l.take (q + 1)) = newL (thereL t.list) [] (l.take q) := fun hc => by rw [hsn, hc, if_neg (by decide), List.append_nil]
  have same : (!thereL t.list l[q] && decide (l[q] ∉ l.take q)) = false → (newL (thereL t.list) [] (l.take (q + 1))).length = (newL (thereL t.list) [] (l.take q)).length := fun hc => by rw [sameL hc]
  refine w.ldr9 1 rfl rfl ?_
  refine g.c.ix (x.base w) (q + 1) rfl (s := l[q]) (by simp [hlt]) ?_
  refine call_ret (rmember_calls (x.out w 1 rfl).1 g) ?_
  rintro _ h5 ⟨hr, e5⟩
  have e5 := e5.symm
  subst e5
  rcases hr with ⟨hf, rfl⟩ | ⟨hf, rfl⟩
  ·have hf : thereL t.list l[q] = false := decide_eq_false hf
   refine call_ret (rahead_calls (p := q + 1) (f0 := 1) (st := 1) (x.out w 1 rfl).1 g.c (by simp only [List.length_cons]; omega) (by simp only [List.length_cons]; omega) (Nat.le_refl _) (by omega)) ?_
   rintro _ h6 ⟨hr, e6⟩
   have e6 := e6.symm
   subst e6
   rcases hr with ⟨ha, rfl⟩ | ⟨ha, rfl⟩
   ·have hc : (!thereL t.list l[q] && decide (l[q] ∉ l.take q)) = true := by rw [hf, decide_eq_true (ahead_no9 hlt ha)]; rfl
    have hns : newL (thereL t.list) [] (l.take (q + 1)) = newL (thereL t.list) [] (l.take q) ++ [l[q]] := by rw [hsn, hc, if_pos rfl]
    have hln : (newL (thereL t.list) [] (l.take (q + 1))).length = (newL (thereL t.list) [] (l.take q)).length + 1 := by rw [hns]; simp
    refine Ai rfl (fun z hz => ?_)
    have hz := add_in hz (by omega) (by omega)
    subst hz
    refine w.ldr9 1 rfl rfl ?_
    refine g.c.ix (x.base w) (q + 1) rfl (s := l[q]) (by simp [hlt]) ?_
    refine w.ldr9 1 rfl rfl ?_
    refine Ai rfl (fun z hz => ?_)
    have hz : z = (t.list.length : Int) + (((newL (thereL t.list) [] (l.take q)).length + 1 : Nat) : Int) := hz.trans (wrap_in (by omega) (by omega))
    subst hz
    refine call_ret (rput9_calls g.c (x.out w 1 rfl).1 (Nat.le_trans la2 (by omega)) (by omega) (by omega) (by omega) (by decide)) ?_
    rintro _ h7 ⟨rfl, lv2, _, o7⟩
    have w := w.own 1 rfl o7
    rw [show preL (k.map RX.pr) key now (accS (k.map RX.pr) key now (addE key) (newL (thereL t.list) [] (l.take q))) ++ [⟨12, key, l[q], ⟨#[]⟩, 0⟩] = accS (k.map RX.pr) key now (addE key) (newL (thereL t.list) [] (l.take (q + 1))) by rw [hns]; exact accS_next (e := addE key)] at w
    refine Ai rfl (fun z hz => ?_)
    have hz := add_in hz (by omega) (by omega)
    subst hz
    exact Ai rfl (Ei (q + 1, _) (Ai ⟨rfl, rfl, by rw [hln]; rfl, rfl, trivial⟩ (Ai ⟨hlt, w⟩ (by simp only; omega))))
   ·have hc : (!thereL t.list l[q] && decide (l[q] ∉ l.take q)) = false := by rw [decide_eq_false (fun hn => hn (ahead_in9 hlt ha)), Bool.and_false]
    have hln := same hc
    have hns := sameL hc
    rw [← hns] at w
    refine Ai rfl (fun z hz => ?_)
    have hz := add_in hz (by omega) (by omega)
    subst hz
    exact Ai rfl (Ei (q + 1, _) (Ai ⟨rfl, rfl, by rw [hln]; rfl, rfl, trivial⟩ (Ai ⟨hlt, w⟩ (by simp only; omega))))
  ·have hc : (!thereL t.list l[q] && decide (l[q] ∉ l.take q)) = false := by rw [show thereL t.list l[q] = true from decide_eq_true hf]; rfl
   have hln := same hc
   have hns := sameL hc
   rw [← hns] at w
   refine Ai rfl (fun z hz => ?_)
   have hz := add_in hz (by omega) (by omega)
   subst hz
   exact Ai rfl (Ei (q + 1, _) (Ai ⟨rfl, rfl, by rw [hln]; rfl, rfl, trivial⟩ (Ai ⟨hlt, w⟩ (by simp only; omega))))
 ·have hkl : q = l.length := by simp only [List.length_cons] at hge; omega
  subst hkl
  refine w.callv rInt9_calls fun h6 w => ?_
  refine w.st1 0 rfl rfl rfl rfl fun h7 w => ?_
  rw [List.take_length] at w
  exact Reply9.fin x w 0 1 rfl rfl (Jd9.ok rfl)
end
end Go.Proofs.YtjnijlnmbjjgpaaGreatDoor
namespace Go.Proofs.YtjnijlnmbjjgpaaGreatDoor
open Go Go.Sx C
theorem newL_sub {th : ByteArray → Bool} : ∀ {l pre : List ByteArray}, ∀ x ∈ newL th pre l, x ∈ l
 |[], _, x, h => (nomatch h)
 |n :: ns, pre, x, h => by
  simp only [newL] at h
  rcases List.mem_append.1 h with h | h
  ·split at h
   ·rw [List.mem_singleton.1 h]; exact List.mem_cons_self ..
   ·cases h
  ·exact List.mem_cons_of_mem _ (newL_sub x h)
section
variable {S : Space} {now kd : Int} {key s u nm : ByteArray} {l : List ByteArray} {f : Thing → Res} {res : Res} {r : Rep} {E : List Eff} {a b : Res}
def vSADD : ByteArray := ⟨#[83, 65, 68, 68]⟩
theorem byP_SADD (hln : l.length ≤ 12) (hz : ∀ a ∈ (key :: l), a.size ≤ 300) : ByP9 now (vSADD :: (key :: l)) (fun S => cSadd S now (key :: l)) := by
 intro h kb sb mb c m S av kr hs s8 s9 hla ht hav
 have hA : ∀ a ∈ (key :: l : List ByteArray), a.size < 281474976710656 := fun a ha => by have := hz a ha; omega
 exact do9_calls (w := vSADD) kr hav (by simp only [List.length_cons]; omega) (by decide) (by kernel_rfl) (fun h2 ab av' hx x => sadd9 ⟨kr, hs, hx⟩ s9 s8.few.ins hA x)
theorem sh_SADD (hln : l.length ≤ 12) : ∀ S, S8 S → S9 S → Short (cSadd S now (key :: l)) := fun S s8 s9 => short_of (fine_sadd s8.few s9 (by simp only [List.length_cons]; omega)) (QL.ite (QL.kind (fun t ht => QL.ite (QL.one (by show (0 : Nat) ≤ _; omega)) (QL.make (by show (0 : Nat) ≤ _; omega))) s9) QL.bad)
theorem byR_SADD (hln : l.length ≤ 12) (hz : ∀ a ∈ (key :: l), a.size ≤ 300) : ByR9 now (vSADD :: (key :: l)) (fun S => cSadd S now (key :: l)) := by
 intro h kv av k hsl hgx hup hlen hfit s8 s9 hla hav
 refine rdoS_calls (N := qSADD) (A := (key :: l)) hsl hgx hup (by omega) hfit hav (by simp only [List.length_cons]; omega) (by decide) hz (by kernel_rfl) rb_SADD (by decide) (by decide) (by decide) (by decide) ?_ ?_ ?_ (fun key => s9.get key now) ?_
 ·intro hh
  cases l with
  |nil => rfl
  |cons a l => exact absurd ⟨by simp only [List.length_cons]; omega, by simp only [List.length_cons] at hln ⊢; omega⟩ hh
 ·rintro _ _ ⟨j, h1, h2, h3, _⟩
  unfold need9 at h3; omega
 ·intro m1 m2 hall key' hk' hok
  obtain rfl : key = key' := Option.some.inj hk'
  have hp : 1 ≤ l.length ∧ l.length < 65536 := ⟨by simp only [List.length_cons] at m1; omega, by omega⟩
  show (if 1 ≤ l.length ∧ l.length < 65536 then kindly _ _ _ _ _ else _) = _
  rw [if_pos hp, kindlyR_no hok]
 ·intro h1 xb av' pv lw rv key' hk' m1 m2 hall hok g x
  obtain rfl : key = key' := Option.some.inj hk'
  have hp : 1 ≤ l.length ∧ l.length < 65536 := ⟨by simp only [List.length_cons] at m1; omega, by omega⟩
  have e : cSadd (k.map RX.pr) now (key :: l) = .ok (numR (newL (thereL ((getS (k.map RX.pr) key now).getD zeroT).list) [] l).length, accS (k.map RX.pr) key now (addE key) (newL (thereL ((getS (k.map RX.pr) key now).getD zeroT).list) [] l)) := by
   show (if 1 ≤ l.length ∧ l.length < 65536 then kindly _ _ _ _ _ else _) = _
   rw [if_pos hp, kindlyR_ok hok]
   have hl9 := g.t9.ls
   have h3 := newL_len (th := thereL ((getS (k.map RX.pr) key now).getD zeroT).list) (l := l) (pre := [])
   have hsub := newL_sub (th := thereL ((getS (k.map RX.pr) key now).getD zeroT).list) (l := l) (pre := [])
   show (if newL (thereL ((getS (k.map RX.pr) key now).getD zeroT).list) [] l = [] then Except.ok (numR 0, []) else makes _ _ _ _ _ _ _) = _
   generalize newL (thereL ((getS (k.map RX.pr) key now).getD zeroT).list) [] l = ns at *
   unfold accS
   cases ns with
   |nil => rfl
   |cons a ns =>
    rw [if_neg (by simp), if_neg (by simp)]
    exact makes_ok (by simp only [List.length_cons] at h3 ⊢; omega) g.ks (all_small fun s hs => hz s (List.mem_cons_of_mem _ (hsub s hs)))
  have hh := rsadd_calls x g
  rw [← e] at hh
  exact hh
def vSREM : ByteArray := ⟨#[83, 82, 69, 77]⟩
theorem byP_SREM (hln : l.length ≤ 12) (hz : ∀ a ∈ (key :: l), a.size ≤ 300) : ByP9 now (vSREM :: (key :: l)) (fun S => cSrem S now (key :: l)) := by
 intro h kb sb mb c m S av kr hs s8 s9 hla ht hav
 have hA : ∀ a ∈ (key :: l : List ByteArray), a.size < 281474976710656 := fun a ha => by have := hz a ha; omega
 exact do9_calls (w := vSREM) kr hav (by simp only [List.length_cons]; omega) (by decide) (by kernel_rfl) (fun h2 ab av' hx x => srem9 ⟨kr, hs, hx⟩ s9 s8.few.ins x)
theorem sh_SREM (hln : l.length ≤ 12) (hz : ∀ a ∈ (key :: l), a.size ≤ 300) : ∀ S, S8 S → S9 S → Short (cSrem S now (key :: l)) := fun S s8 s9 => short_of (fine_srem s8.few s9 (by simp only [List.length_cons]; omega) hz) (QL.ite (QL.kind (fun t ht => QL.one (by show (0 : Nat) ≤ _; omega)) s9) QL.bad)
theorem byR_SREM (hln : l.length ≤ 12) (hz : ∀ a ∈ (key :: l), a.size ≤ 300) : ByR9 now (vSREM :: (key :: l)) (fun S => cSrem S now (key :: l)) := by
 intro h kv av k hsl hgx hup hlen hfit s8 s9 hla hav
 refine rdoS_calls (N := qSREM) (A := (key :: l)) hsl hgx hup (by omega) hfit hav (by simp only [List.length_cons]; omega) (by decide) hz (by kernel_rfl) rb_SREM (by decide) (by decide) (by decide) (by decide) ?_ ?_ ?_ (fun key => s9.get key now) ?_
 ·intro hh
  cases l with
  |nil => rfl
  |cons a l => exact absurd ⟨by simp only [List.length_cons]; omega, by simp only [List.length_cons] at hln ⊢; omega⟩ hh
 ·rintro _ _ ⟨j, h1, h2, h3, _⟩
  unfold need9 at h3; omega
 ·intro m1 m2 hall key' hk' hok
  obtain rfl : key = key' := Option.some.inj hk'
  have hp : 1 ≤ l.length ∧ l.length < 65536 := ⟨by simp only [List.length_cons] at m1; omega, by omega⟩
  show (if 1 ≤ l.length ∧ l.length < 65536 then kindly _ _ _ _ _ else _) = _
  rw [if_pos hp, kindlyR_no hok]
 ·intro h1 xb av' pv lw rv key' hk' m1 m2 hall hok g x
  obtain rfl : key = key' := Option.some.inj hk'
  have hp : 1 ≤ l.length ∧ l.length < 65536 := ⟨by simp only [List.length_cons] at m1; omega, by omega⟩
  have e : cSrem (k.map RX.pr) now (key :: l) = .ok (numR (hereL (thereL ((getS (k.map RX.pr) key now).getD zeroT).list) l).length, (hereL (thereL ((getS (k.map RX.pr) key now).getD zeroT).list) l).map fun n => ⟨13, key, n, noText, 0⟩) := by
   show (if 1 ≤ l.length ∧ l.length < 65536 then kindly _ _ _ _ _ else _) = _
   rw [if_pos hp, kindlyR_ok hok]
   rfl
  have hh := rsrem_calls x g
  rw [← e] at hh
  exact hh
def vSISMEMBER : ByteArray := ⟨#[83, 73, 83, 77, 69, 77, 66, 69, 82]⟩
theorem byP_SISMEMBER (hz : ∀ a ∈ [key, s], a.size ≤ 300) : ByP9 now (vSISMEMBER :: [key, s]) (fun S => cSis S now [key, s]) := by
 intro h kb sb mb c m S av kr hs s8 s9 hla ht hav
 have hA : ∀ a ∈ ([key, s] : List ByteArray), a.size < 281474976710656 := fun a ha => by have := hz a ha; omega
 exact do9_calls (w := vSISMEMBER) kr hav (by simp only [List.length_cons, List.length_nil]; omega) (by decide) (by kernel_rfl) (fun h2 ab av' hx x => sis9 ⟨kr, hs, hx⟩ s9 s8.few.ins x)
theorem sh_SISMEMBER : ∀ S, S8 S → S9 S → Short (cSis S now [key, s]) := fun S s8 s9 => short_of (fine_sis) (by simp only [cSis, arg2]; exact QL.kind (fun t ht => QL.one (by show (0 : Nat) ≤ _; omega)) s9)
theorem byR_SISMEMBER (hz : ∀ a ∈ [key, s], a.size ≤ 300) : ByR9 now (vSISMEMBER :: [key, s]) (fun S => cSis S now [key, s]) := by
 intro h kv av k hsl hgx hup hlen hfit s8 s9 hla hav
 refine rdoS_calls (N := qSISMEMBER) (A := [key, s]) hsl hgx hup (by omega) hfit hav (by simp only [List.length_cons, List.length_nil]; omega) (by decide) hz (by kernel_rfl) rb_SISMEMBER (by decide) (by decide) (by decide) (by decide) ?_ ?_ ?_ (fun key => s9.get key now) ?_
 ·intro hh; exact absurd ⟨by simp, by simp⟩ hh
 ·rintro _ _ ⟨j, h1, h2, h3, _⟩
  unfold need9 at h3; simp at h2; omega
 ·intro m1 m2 hall key' hk' hok
  obtain rfl : key = key' := Option.some.inj hk'
  simp only [cSis, arg2, kindlyR_no hok]
 ·intro h1 xb av' pv lw rv key' hk' m1 m2 hall hok g x
  obtain rfl : key = key' := Option.some.inj hk'
  simp only [cSis, arg2, kindlyR_ok hok]
  exact rsis_calls x g
def vSCARD : ByteArray := ⟨#[83, 67, 65, 82, 68]⟩
theorem byP_SCARD (hz : ∀ a ∈ [key], a.size ≤ 300) : ByP9 now (vSCARD :: [key]) (fun S => cScard S now [key]) := by
 intro h kb sb mb c m S av kr hs s8 s9 hla ht hav
 have hA : ∀ a ∈ ([key] : List ByteArray), a.size < 281474976710656 := fun a ha => by have := hz a ha; omega
 exact do9_calls (w := vSCARD) kr hav (by simp only [List.length_cons, List.length_nil]; omega) (by decide) (by kernel_rfl) (fun h2 ab av' hx x => scard9 ⟨kr, hs, hx⟩ x)
theorem sh_SCARD : ∀ S, S8 S → S9 S → Short (cScard S now [key]) := fun S s8 s9 => short_of (fine_scard) (by simp only [cScard, arg1]; exact QL.kind (fun t ht => QL.one (by show (0 : Nat) ≤ _; omega)) s9)
theorem byR_SCARD (hz : ∀ a ∈ [key], a.size ≤ 300) : ByR9 now (vSCARD :: [key]) (fun S => cScard S now [key]) := by
 intro h kv av k hsl hgx hup hlen hfit s8 s9 hla hav
 refine rdoS_calls (N := qSCARD) (A := [key]) hsl hgx hup (by omega) hfit hav (by simp only [List.length_cons, List.length_nil]; omega) (by decide) hz (by kernel_rfl) rb_SCARD (by decide) (by decide) (by decide) (by decide) ?_ ?_ ?_ (fun key => s9.get key now) ?_
 ·intro hh; exact absurd ⟨by simp, by simp⟩ hh
 ·rintro _ _ ⟨j, h1, h2, h3, _⟩
  unfold need9 at h3; simp at h2; omega
 ·intro m1 m2 hall key' hk' hok
  obtain rfl : key = key' := Option.some.inj hk'
  simp only [cScard, arg1, kindlyR_no hok]
 ·intro h1 xb av' pv lw rv key' hk' m1 m2 hall hok g x
  obtain rfl : key = key' := Option.some.inj hk'
  simp only [cScard, arg1, kindlyR_ok hok]
  exact rscard_calls x g
def vSMEMBERS : ByteArray := ⟨#[83, 77, 69, 77, 66, 69, 82, 83]⟩
theorem byP_SMEMBERS (hz : ∀ a ∈ [key], a.size ≤ 300) : ByP9 now (vSMEMBERS :: [key]) (fun S => cSmem S now [key]) := by
 intro h kb sb mb c m S av kr hs s8 s9 hla ht hav
 have hA : ∀ a ∈ ([key] : List ByteArray), a.size < 281474976710656 := fun a ha => by have := hz a ha; omega
 exact do9_calls (w := vSMEMBERS) kr hav (by simp only [List.length_cons, List.length_nil]; omega) (by decide) (by kernel_rfl) (fun h2 ab av' hx x => smem9 ⟨kr, hs, hx⟩ s9 x)
theorem sh_SMEMBERS : ∀ S, S8 S → S9 S → Short (cSmem S now [key]) := fun S s8 s9 => short_of (fine_smem) (by simp only [cSmem, arg1]; exact QL.kind (fun t ht => QL.one (by show (t.list.map _).length ≤ _; have := ht.ls; rw [List.length_map]; omega)) s9)
theorem byR_SMEMBERS (hz : ∀ a ∈ [key], a.size ≤ 300) : ByR9 now (vSMEMBERS :: [key]) (fun S => cSmem S now [key]) := by
 intro h kv av k hsl hgx hup hlen hfit s8 s9 hla hav
 refine rdoS_calls (N := qSMEMBERS) (A := [key]) hsl hgx hup (by omega) hfit hav (by simp only [List.length_cons, List.length_nil]; omega) (by decide) hz (by kernel_rfl) rb_SMEMBERS (by decide) (by decide) (by decide) (by decide) ?_ ?_ ?_ (fun key => s9.get key now) ?_
 ·intro hh; exact absurd ⟨by simp, by simp⟩ hh
 ·rintro _ _ ⟨j, h1, h2, h3, _⟩
  unfold need9 at h3; simp at h2; omega
 ·intro m1 m2 hall key' hk' hok
  obtain rfl : key = key' := Option.some.inj hk'
  simp only [cSmem, arg1, kindlyR_no hok]
 ·intro h1 xb av' pv lw rv key' hk' m1 m2 hall hok g x
  obtain rfl : key = key' := Option.some.inj hk'
  simp only [cSmem, arg1, kindlyR_ok hok]
  exact rsmem_calls x g
end
end Go.Proofs.YtjnijlnmbjjgpaaGreatDoor
namespace Go.Proofs.YtjnijlnmbjjgpaaGreatDoor
open Go Go.Sx C
section
variable {h0 h h1 h' : Heap} {xb i : Nat} {now n m : Int} {kv av lv pv lw rv : Value} {k : List RX} {A l : List ByteArray} {L E : List Eff} {why key s u nm : ByteArray} {t : Thing} {M : List En} {T : List Nat} {res : Res}
set_option maxHeartbeats 2000000 in
theorem rinter_calls (c : RC9 h0 kv k av A) (x : As h0 h (aT xb t pv lw rv key kv now av lv [] noText)) (s9 : S9 (k.map RX.pr)) (hz : ∀ a ∈ A, a.size ≤ 300) (hal : A.length ≤ 20) (hpos : 0 < A.length) : CallsH Tryz.prog 58 [ptr xb] h
  (Ret (Reply9 h0 h xb t pv lw rv key kv now av lv (cSinter (k.map RX.pr) now A))) := by
 obtain ⟨b, o, cc, rfl⟩ := c.argF hpos
 obtain ⟨S, hS⟩ : ∃ S, S = k.map RX.pr := ⟨_, rfl⟩
 obtain ⟨rs, hrs⟩ : ∃ rs, rs = cSinter S now A := ⟨_, rfl⟩
 rw [← hS] at s9
 rw [← hS, ← hrs]
 refine f58_calls (by simp) ?_
 intro b2 h1 g1
 have w := x.st.new g1
 have w := w.add (e := En.nil) (Chg.refl _) trivial (fun b hb => (nomatch (show b ∈ ([] : List Nat) from hb)))
 refine loop_intro (fun q : Nat × Value => [(0, ptr xb), (2, ptr b2), (3, q.2), (4, .int .i64 q.1)])
  (fun q h' => q.1 ≤ A.length ∧ ∃ (e0 : En) (acc : List ByteArray) (t' : Thing) (pv' lw' rv' lv' : Value) (key' : ByteArray),
   St (xb :: vblk lv) h h' [e0, .b b2 [.int .i64 0, .int .i64 0, .string ⟨#[]⟩, .slice none 0 0], aT xb t' pv' lw' rv' key' kv now (.slice (some ⟨b, o, none⟩) A.length cc) lv' [] noText] ∧
   (∀ h2, e0.at h2 → Chg [] h0 h2 → SL encS h2 q.2 acc) ∧ acc.length ≤ 2000 ∧ (0 < q.1 → rs = interL S now acc (A.drop q.1) fun l => .ok (listR l, [])))
  (fun q => A.length - q.1) (0, .slice none 0 0) ⟨rfl, rfl, rfl, rfl, trivial⟩ ⟨Nat.zero_le _, En.nil, [], t, pv, lw, rv, lv, key, w, fun _ _ _ => SL.nil, by simp, fun h => absurd h (by simp)⟩ ?_
 rintro ⟨q, v⟩ h4 ⟨hq, e0, acc, t1, pv1, lw1, rv1, lv1, key1, w, hv, hacc, hres⟩
 have hq : q ≤ A.length := hq
 have hv : ∀ h2, e0.at h2 → Chg [] h0 h2 → SL encS h2 v acc := hv
 have hres : 0 < q → rs = interL S now acc (A.drop q) fun l => .ok (listR l, []) := hres
 have hv4 := hv _ (w.get 0 rfl) (x.base w)
 obtain ⟨va, vc, rfl, _⟩ := hv4.form
 refine w.ldr9 2 rfl rfl ?_
 refine Ai rfl (Ai (fun hlt => ?_) (fun hge => ?_))
 ·have hlt : q < A.length := by omega
  have zk : A[q].size ≤ 300 := hz _ (List.getElem_mem hlt)
  refine w.ldr9 2 rfl rfl ?_
  refine c.ix (x.base w) q rfl (List.getElem?_eq_getElem hlt) ?_
  refine w.stK9 2 rfl fun h5 w => ?_
  refine call_ret (rof9_calls (kd := 4) c (x.out w 2 rfl).1 (by omega)) ?_
  rintro _ h6 ⟨pv2, lw2, rv2, rfl, hth, _, o6⟩
  have w := w.own 2 rfl o6
  rw [← hS] at hth w ⊢
  have t9 := s9.get A[q] now
  have hdr : A.drop q = A[q] :: A.drop (q + 1) := List.drop_eq_getElem_cons hlt
  cases hok : okK 4 (getS S A[q] now) with
  |false =>
   rw [hok] at w
   refine w.st1 1 rfl rfl rfl rfl fun h7 w => ?_
   refine ⟨_, rfl, cells_blk (w.get 1 rfl), rep 0 0 noText, _, [], wType, ⟨none, 0, 0, rfl, SL.nil, fun b hb => (nomatch (show b ∈ ([] : List Nat) from hb))⟩, ⟨_, _, _, _, _, x.out w 2 rfl⟩, Jd9.no (by decide) ?_⟩
   cases q with
   |zero =>
    rw [hrs]
    cases A with
    |nil => simp at hpos
    |cons a A' =>
     show (if A'.length < 65536 then kindly S now 4 a _ else _) = _
     rw [if_pos (by simp only [List.length_cons] at hal; omega)]
     exact kindlyR_no hok
   |succ q =>
    rw [hres (by omega), hdr]
    exact kindlyR_no hok
  |true =>
   rw [hok] at w
   have hls := fun h2 hc => (th_lists (hth h2 hc)).2.1
   have tl := t9.ls
   obtain ⟨la, lc, rfl, _⟩ := (hls h0 (Chg.refl _)).form
   refine Ai rfl (Ai (fun hq0 => ?_) (fun hq0 => ?_))
   ·obtain rfl : q = 0 := by omega
    refine w.ldr9 2 rfl rfl ?_
    refine Ai rfl (fun z hz => ?_)
    have hz := add_in hz (by omega) (by omega)
    subst hz
    have w := w.gone 0 rfl (Chg.refl _ |>.mono (fun k hk => hk)) (S := []) (fun b hb => (nomatch hb))
    refine Ai rfl (Ei (1, _) (Ai ⟨rfl, rfl, rfl, rfl, trivial⟩ (Ai ⟨hlt, En.nil, ((getS S A[0] now).getD zeroT).list, _, _, _, _, _, _, w, fun h2 _ hc => hls h2 hc, tl, fun _ => ?_⟩ (by simp only; omega))))
    rw [hrs]
    cases A with
    |nil => simp at hpos
    |cons a A' =>
     show (if A'.length < 65536 then kindly S now 4 a _ else _) = _
     rw [if_pos (by simp only [List.length_cons] at hal; omega)]
     exact kindlyR_ok hok
   ·have hq1 : 0 < q := by omega
    have g : RG9 h0 kv k (.slice (some ⟨b, o, none⟩) A.length cc) A A[q] ((getS S A[q] now).getD zeroT) pv2 (.slice la ((getS S A[q] now).getD zeroT).list.length lc) rv2 := ⟨c, hth, t9, zk, hz, hal⟩
    obtain ⟨tt, htt⟩ : ∃ tt, tt = (getS S A[q] now).getD zeroT := ⟨_, rfl⟩
    rw [← htt] at w g hls tl
    have w := w.empty (enc := encS) (size := 1)
    refine loop_intro (fun j : Nat × Value => [(0, ptr xb), (2, ptr b2), (3, .slice va acc.length vc), (4, .int .i64 q), (5, j.2), (6, .int .i64 j.1)])
     (fun j h' => j.1 ≤ acc.length ∧ ∃ lv' : Value, St (xb :: vblk lv) h h' [.o encS 1 j.2 ((acc.take j.1).filter (thereL tt.list)), e0, .b b2 [.int .i64 0, .int .i64 0, .string ⟨#[]⟩, .slice none 0 0], aT xb tt pv2 (.slice la tt.list.length lc) rv2 A[q] kv now (.slice (some ⟨b, o, none⟩) A.length cc) lv' [] noText])
     (fun j => acc.length - j.1) (0, .slice none 0 0) ⟨rfl, rfl, rfl, rfl, rfl, rfl, trivial⟩ ⟨Nat.zero_le _, _, w⟩ ?_
    rintro ⟨j, vb⟩ h8 ⟨hj, lv8, w⟩
    have hj : j ≤ acc.length := hj
    have w : St (xb :: vblk lv) h h8 [.o encS 1 vb ((acc.take j).filter (thereL tt.list)), e0, .b b2 [.int .i64 0, .int .i64 0, .string ⟨#[]⟩, .slice none 0 0], aT xb tt pv2 (.slice la tt.list.length lc) rv2 A[q] kv now (.slice (some ⟨b, o, none⟩) A.length cc) lv8 [] noText] := w
    have hfl : ((acc.take j).filter (thereL tt.list)).length ≤ 2000 := Nat.le_trans (List.length_filter_le _ _) (by rw [List.length_take]; omega)
    obtain ⟨ba, bc, rfl, _⟩ := (show OL encS 1 h8 vb _ from w.get 0 rfl).sl.form
    refine Ai rfl (Ai (fun hjl => ?_) (fun hjg => ?_))
    ·have hjl : j < acc.length := by omega
     have hv8 := hv _ (w.get 1 rfl) (x.base w)
     obtain ⟨vb', vo, rfl⟩ := hv8.addr (by omega)
     have nxt : (acc.take (j + 1)).filter (thereL tt.list) = (acc.take j).filter (thereL tt.list) ++ (if thereL tt.list acc[j] = true then [acc[j]] else []) := by
      rw [List.take_succ_eq_append_getElem hjl, List.filter_append]
      congr 1
      cases hp : thereL tt.list acc[j] with
      |true => rw [if_pos rfl]; simp [hp]
      |false => rw [if_neg (by decide)]; simp [hp]
     refine sl_ix hv8 j rfl (List.getElem?_eq_getElem hjl) ?_
     refine call_ret (rmember_calls (x.out w 3 rfl).1 g) ?_
     rintro _ h9 ⟨hr, e9⟩
     have e9 := e9.symm
     subst e9
     rcases hr with ⟨hf, rfl⟩ | ⟨hf, rfl⟩
     ·have w : St (xb :: vblk lv) h h8 [.o encS 1 (.slice ba ((acc.take j).filter (thereL tt.list)).length bc) ((acc.take (j + 1)).filter (thereL tt.list)), e0, .b b2 [.int .i64 0, .int .i64 0, .string ⟨#[]⟩, .slice none 0 0], aT xb tt pv2 (.slice la tt.list.length lc) rv2 A[q] kv now (.slice (some ⟨b, o, none⟩) A.length cc) lv8 [] noText] := by
       rw [nxt, if_neg (by simpa [thereL] using hf), List.append_nil]; exact w
      refine Ai rfl (fun z hz => ?_)
      have hz := add_in hz (by omega) (by omega)
      subst hz
      exact Ai rfl (Ei (j + 1, _) (Ai ⟨rfl, rfl, rfl, rfl, rfl, rfl, trivial⟩ (Ai ⟨hjl, _, w⟩ (by simp only; omega))))
     ·refine sl_ix hv8 j rfl (List.getElem?_eq_getElem hjl) ?_
      intro b9 h10 g10
      have w := w.new g10
      refine w.app 1 rfl encS_len encS_one rfl (SL.one encS_len (x := acc[j]) (w.get 0 rfl)) (by simp only [List.length_singleton]; omega) fun v' h11 w => ?_
      rw [show (acc.take j).filter (thereL tt.list) ++ [acc[j]] = (acc.take (j + 1)).filter (thereL tt.list) by rw [nxt, if_pos (by simpa [thereL] using hf)]] at w
      have w := w.pick [1, 2, 3, 4] (by decide)
      refine Ai rfl (fun z hz => ?_)
      have hz := add_in hz (by omega) (by omega)
      subst hz
      exact Ai rfl (Ei (j + 1, _) (Ai ⟨rfl, rfl, rfl, rfl, rfl, rfl, trivial⟩ (Ai ⟨hjl, _, w⟩ (by simp only; omega))))
    ·have hjn : j = acc.length := by omega
     have w := w.pick [0, 2, 3] (by decide)
     refine Ai rfl (fun z hz => ?_)
     have hz := add_in hz (by omega) (by omega)
     subst hz
     refine Ai rfl (Ei (q + 1, _) (Ai ⟨rfl, rfl, rfl, rfl, trivial⟩ (Ai ⟨hlt, _, (acc.take j).filter (thereL tt.list), _, _, _, _, _, _, w, fun h2 he _ => (show OL encS 1 h2 _ _ from he).sl, hfl, fun _ => ?_⟩ (by simp only; omega))))
     show rs = _
     rw [hres hq1, hdr, hjn, List.take_length]
     show kindly S now 4 A[q] _ = _
     rw [kindlyR_ok hok, htt]
 ·have hqn : q = A.length := by omega
  have l4 : b2 < h4.size := (show Blk h4 b2 _ from w.get 1 rfl).lt
  have z1 := w.chg.size
  refine call_ret (rtexts_calls hv4 (by omega)) ?_
  rintro _ h5 ⟨⟨ra, rn, rc, rfl, sl, fr⟩, c5⟩
  have w := w.ext c5
  refine w.st2 1 rfl rfl rfl rfl fun h6 w k6 => ?_
  refine ⟨_, rfl, cells_blk (w.get 1 rfl), listR acc, lv1, [], noText, ⟨ra, rn, rc, rfl, sl.chg k6 (fun b hb => by have := fr b hb; simp; omega), fun b hb => by have := fr b hb; omega⟩, ⟨_, _, _, _, _, x.out w 2 rfl⟩, Jd9.ok ?_⟩
  rw [hres (by omega), hqn, List.drop_length]
  rfl
end
end Go.Proofs.YtjnijlnmbjjgpaaGreatDoor
namespace Go.Proofs.YtjnijlnmbjjgpaaGreatDoor
open Go Go.Sx C
set_option maxHeartbeats 1000000 in
theorem rdoI_calls {h : Heap} {kv av : Value} {k : List RX} {now lo hi wh : Int} {w N : ByteArray} {A : List ByteArray} {res : Res} (hsl : SL encX h kv k) (hgx : GX h k) (hup : UpX k) (hlen : k.length < 4611686018427387904) (hfit : KeysFit k)
  (hA : SL encS h av (w :: A)) (hal : A.length + 1 ≤ 20) (hzw : w.size ≤ 300) (hz : ∀ s ∈ A, s.size ≤ 300) (hN : up w = N) (hb : BoundR9 N lo hi 4 wh) (hlo : 1 ≤ lo) (hNe : N = qSINTER)
  (hout : ¬ (lo ≤ A.length ∧ (A.length : Int) ≤ hi) → res = .error wArgs)
  (hnum : lo ≤ A.length → (A.length : Int) ≤ hi → (∃ j, 1 ≤ j ∧ j < A.length ∧ need9 wh j ∧ (A[j]?.bind numOf) = none) → res = .error wNum)
  (hf : ∀ {h1 : Heap} {xb : Nat} {av' : Value} {key : ByteArray}, lo ≤ A.length → (A.length : Int) ≤ hi → RC9 h kv k av' A →
   As h h1 (aT xb zeroT (.slice none 0 0) (.slice none 0 0) (.slice none 0 0) key kv now av' (.slice none 0 0) [] noText) →
   CallsH Tryz.prog 58 [ptr xb] h1 (Ret (Reply9 h h1 xb zeroT (.slice none 0 0) (.slice none 0 0) (.slice none 0 0) key kv now av' (.slice none 0 0) res))) :
  CallsH Tryz.prog 31 [kv, .int .i64 now, av] h (Ret (DoR h res)) := by
 obtain ⟨ka, kc, rfl, _⟩ := hsl.form
 obtain ⟨a, cc, rfl, hcc⟩ := hA.form
 obtain ⟨b0, o0, rfl⟩ := hA.addr (by simp)
 have hl : (w :: A).length ≤ 20 := hal
 refine f31_calls (by simp) ?_
 intro b6 h1 g1
 have w1 := (St.start h).new g1
 refine Ai rfl (Ai (fun h0 => absurd h0 (by simp; omega)) (fun _ => ?_))
 have hc0 := (hA.ext w1.chg).cells encS_len (i := 0) (x := w) (by simp)
 refine Ai (by decide) (Ai (by simp) (Ei _ (Ai (by simpa using hc0 0 _ rfl) ?_)))
 refine w1.callv (rword_calls (by omega)) fun h2 w2 => ?_
 rw [hN]
 refine callp (hb h2) ?_
 refine Ai (by decide) (Ai (by simp only [List.length_cons]; omega) (Ai (by omega) ?_))
 refine sl_slc (lo := 1) (hi := (w :: A).length) encS_len (hA.ext w2.chg) (by simp) (Nat.le_refl _) fun v1 hv1 => ?_
 have e1 : ((w :: A).drop 1).take ((w :: A).length - 1) = A := by simp
 rw [e1] at hv1
 obtain ⟨a1, cc1, rfl, hcc1⟩ := (hv1 h hA).form
 intro xb h5 g5
 have w5 := w2.new g5
 have z2 := w2.chg.size
 have i5 := g5.id
 have c : RC9 h (.slice ka k.length kc) k (.slice a1 A.length cc1) A := ⟨hsl, hgx, hup, hlen, hfit, fun h' hc => hv1 h' (hA.ext hc)⟩
 have nomem : xb ∉ vblk (.slice none 0 0) := fun hm => (nomatch (show xb ∈ ([] : List Nat) from hm))
 have w : St [] h h5 [aT xb zeroT (.slice none 0 0) (.slice none 0 0) (.slice none 0 0) noText (.slice ka k.length kc) now (.slice a1 A.length cc1) (.slice none 0 0) [] noText, .b b6 [.int .i64 0, .int .i64 0, .string ⟨#[]⟩, .slice none 0 0]] :=
  w5.set 0 rfl (Chg.refl _) (by simp) ⟨w5.get 0 rfl, OL.nil, nomem⟩ (fun b hb => by
   rcases List.mem_cons.1 hb with rfl | hb
   ·exact .inl (by simp [En.fp])
   ·exact (nomatch (show b ∈ ([] : List Nat) from hb)))
 refine call_ret (rmany9_calls c (w.as 0 rfl)) ?_
 rintro _ h6 (⟨m1, m2, rfl, _, o6⟩ | ⟨mn, rfl, _, o6⟩)
 rotate_left
 ·have w := w.own 0 rfl o6
  refine w.ldr9 0 rfl rfl ?_
  refine w.callv rFail9_calls fun h7 w => ?_
  refine w.st1 1 rfl rfl rfl rfl fun h8 w => ?_
  rw [hout mn]
  exact ⟨_, rfl, cells_blk (w.get 1 rfl), w.chg, rfl⟩
 have w := w.own 0 rfl o6
 subst hNe
 refine Ai (fun he => absurd he (by decide)) (fun _ => ?_)
 refine Ai (fun he => absurd he (by decide)) (fun _ => ?_)
 refine call_ret (rnums9_calls c (w.as 0 rfl) (by omega) hz) ?_
 rintro _ h7 (⟨hall, rfl, _, o7⟩ | ⟨hbad, rfl, _, o7⟩)
 rotate_left
 ·have w := w.own 0 rfl o7
  refine w.ldr9 0 rfl rfl ?_
  refine w.callv rFail9_calls fun h8 w => ?_
  refine w.st1 1 rfl rfl rfl rfl fun h9 w => ?_
  rw [hnum m1 m2 hbad]
  exact ⟨_, rfl, cells_blk (w.get 1 rfl), w.chg, rfl⟩
 have w := w.own 0 rfl o7
 have hpos : 0 < A.length := by omega
 obtain ⟨key, hkey⟩ : ∃ key, A[0]? = some key := ⟨_, List.getElem?_eq_getElem hpos⟩
 have hks : key.size ≤ 300 := hz key (List.mem_of_getElem? hkey)
 obtain ⟨b1, o1, cc2, he1⟩ := c.argF hpos
 obtain ⟨rfl, _, rfl⟩ := Value.slice.inj he1
 refine w.ldr9 0 rfl rfl ?_
 refine c.ix (w.chg) 0 rfl hkey ?_
 refine w.stK9 0 rfl fun h8 w => ?_
 intro b17 h9 g9
 have w := w.new g9
 have l6 : b6 < h9.size := (show Blk h9 b6 _ from w.get 2 rfl).lt
 have l17 : b17 < h9.size := (show Blk h9 b17 _ from w.get 0 rfl).lt
 have fail : ∀ {h' : Heap} {why : ByteArray} {t' : Thing} {pv' lw' rv' lv' : Value} {key' : ByteArray} {E : List Eff} {r17 : List Value}, why ≠ noText → res = .error why → St [] h h' [.b b17 r17, aT xb t' pv' lw' rv' key' (.slice ka k.length kc) now (.slice (some ⟨b1, o1, none⟩) A.length cc1) lv' E why, .b b6 [.int .i64 0, .int .i64 0, .string ⟨#[]⟩, .slice none 0 0]] →
   swp Tryz.prog (.seq (.seq (.ops f31r28) (.cond (.tmp 130) (.seq (.ops f31r29) .ret) .skip)) (.seq (.two f31p30 f31r30 f31s30) .ret)) (retQ [.cn 6 4, .t 7, .t 8] (Ret (DoR h res))) (mk [(6, ptr b6), (15, ptr xb), (17, ptr b17)]) [] h' := by
  intro h' why t' pv' lw' rv' lv' key' E r17 hw hr w
  refine w.ldr9 1 rfl rfl ?_
  refine Ai (fun _ => ?_) (fun h9 => absurd (fun e => hw e) h9)
  refine w.ldr9 1 rfl rfl ?_
  refine w.callv rFail9_calls fun h10 w => ?_
  refine w.st1 2 rfl rfl rfl rfl fun h11 w => ?_
  rw [hr]
  exact ⟨_, rfl, cells_blk (w.get 2 rfl), w.chg, rfl⟩
 refine Ai (fun _ => ?_) (fun he => absurd rfl he)
 refine call_ret (hf m1 m2 c (w.as 1 rfl)) ?_
 rintro _ h11 ⟨q, lv', E, why, ⟨ra, rn, rc, rfl, sl, fr⟩, ⟨t', pv', lw', rv', key', _, o11⟩, hd⟩
 have w := w.own 1 rfl o11
 refine w.st2 0 rfl rfl rfl rfl fun h12 w k12 => ?_
 have sl12 : SL encQ h12 (.slice ra rn rc) q.l := sl.chg k12 (fun b hb => by have := fr b hb; simp; omega)
 rcases hd with ⟨rfl, hd⟩ | ⟨hne, hd⟩
 ·refine w.ldr9 1 rfl rfl ?_
  refine Ai (fun h9 => absurd rfl h9) (fun _ => ?_)
  obtain ⟨la, lc, rfl⟩ := w.rform9 1 rfl
  have fin : ∀ {h' : Heap}, St [] h h' [.b b17 [.int .i64 q.k, .int .i64 q.i, .string q.s, .slice ra rn rc], aT xb t' pv' lw' rv' key' (.slice ka k.length kc) now (.slice (some ⟨b1, o1, none⟩) A.length cc1) (.slice la E.length lc) E noText, .b b6 [.int .i64 q.k, .int .i64 q.i, .string q.s, .slice ra rn rc]] → Chg [b6] h12 h' →
    ∃ vs, vs.length = 4 ∧ Cells h' b6 0 vs ∧ DoR h res (.tuple ⟨[.agg ⟨vs⟩, .slice la E.length lc, .bool true]⟩) h' := fun w k => by
   rw [hd]
   refine ⟨_, rfl, cells_blk (w.get 2 rfl), w.chg, _, _, rfl, ⟨ra, rn, rc, rfl, sl12.chg k (fun b hb => by have := fr b hb; simp; omega), fun _ _ => Nat.zero_le _⟩, (w.get 1 rfl).2.1.sl, fun b hb => ?_⟩
   rcases (w.ents 1 _ rfl).2 b (List.mem_cons_of_mem _ hb) with h1 | h1
   ·cases h1
   ·exact h1
  refine w.ldw 0 rfl rfl ?_
  refine Ai ?_ ?_
  ·refine w.ldr9 1 rfl rfl ?_
   refine w.st2 2 rfl rfl rfl rfl fun h13 w k13 => ?_
   exact fin w k13
  ·refine w.st2 2 rfl rfl rfl rfl fun h13 w k13 => ?_
   refine w.ldr9 1 rfl rfl ?_
   exact fin w k13
 ·exact cut_at [(6, ptr b6), (15, ptr xb), (17, ptr b17)] ⟨rfl, rfl, rfl, trivial⟩ (fail hne hd w)
section
variable {S : Space} {now : Int} {key : ByteArray} {l : List ByteArray}
def vSINTER : ByteArray := ⟨#[83, 73, 78, 84, 69, 82]⟩
theorem byP_SINTER (hln : l.length ≤ 12) (_hz : ∀ a ∈ (key :: l), a.size ≤ 300) : ByP9 now (vSINTER :: (key :: l)) (fun S => cSinter S now (key :: l)) := by
 intro h kb sb mb c m S av kr hs s8 s9 hla ht hav
 exact do9_calls (w := vSINTER) kr hav (by simp only [List.length_cons]; omega) (by decide) (by kernel_rfl) (fun h2 ab av' hx x => sinter9 ⟨kr, hs, hx⟩ s9 s8.few.ins (by simp only [List.length_cons]; omega) x)
theorem ql_inter (hs : S9 S) : ∀ {ks acc : List ByteArray}, acc.length ≤ 2000 → QL (interL S now acc ks fun l => .ok (listR l, []))
 |[], acc, ha => QL.one (by show (acc.map _).length ≤ _; rw [List.length_map]; omega)
 |key :: ks, acc, ha => QL.kind (fun t ht => ql_inter hs (Nat.le_trans (List.length_filter_le _ _) ha)) hs
theorem sh_SINTER : ∀ S, S8 S → S9 S → Short (cSinter S now (key :: l)) := fun S _ s9 => short_of fine_sinter (QL.ite (QL.kind (fun t ht => ql_inter s9 (by have := ht.ls; omega)) s9) QL.bad)
theorem byR_SINTER (hln : l.length ≤ 12) (hz : ∀ a ∈ (key :: l), a.size ≤ 300) : ByR9 now (vSINTER :: (key :: l)) (fun S => cSinter S now (key :: l)) := by
 intro h kv av k hsl hgx hup hlen hfit s8 s9 hla hav
 refine rdoI_calls (N := qSINTER) (A := (key :: l)) hsl hgx hup (by omega) hfit hav (by simp only [List.length_cons]; omega) (by decide) hz (by kernel_rfl) rb_SINTER (by decide) rfl ?_ ?_ ?_
 ·intro hh; exact absurd ⟨by simp only [List.length_cons]; omega, by simp only [List.length_cons]; omega⟩ hh
 ·rintro _ _ ⟨j, h1, h2, h3, _⟩
  unfold need9 at h3; omega
 ·intro h1 xb av' key' m1 m2 c x
  exact rinter_calls c x s9 hz (by simp only [List.length_cons]; omega) (by simp only [List.length_cons]; omega)
end
end Go.Proofs.YtjnijlnmbjjgpaaGreatDoor
namespace Go.Proofs.YtjnijlnmbjjgpaaGreatDoor
open Go Go.Sx C
theorem large9_calls {h : Heap} {vs : List Value} {t : Thing} (x : TH h vs t) (f : Fits t) (s : Sized t) :
  CallsH Tryz.prog 30 [.agg ⟨vs⟩] h (Ret fun r h' => (∃ b, r = .bool b ∧ (b = false → Small t)) ∧ Chg [] h h') := by
 have fp := f.p; have fl := f.l; have fr := f.r
 refine f30_calls (by simp) ?_
 intro b1 h1 g1
 have B1 : Blk h1 b1 vs := g1.blk
 have hc := g1.chg
 obtain ⟨pv, lv, rv, rfl, hp, hl, hr⟩ := x.ext hc
 obtain ⟨pa, pc, rfl, _⟩ := hp.form
 obtain ⟨la, lc, rfl, _⟩ := hl.form
 obtain ⟨ra, rc, rfl, _⟩ := hr.form
 have yes : Ret (fun r h' => (∃ b, r = .bool b ∧ (b = false → Small t)) ∧ Chg [] h h') (.returned (retV [Value.bool true])) h1 := ⟨⟨true, rfl, fun h => by cases h⟩, hc⟩
 refine Ei _ (Ai (cell_blk B1 rfl) ?_)
 refine Ei _ (Ai (cell_blk B1 rfl) ?_)
 refine Ai rfl (Ai (fun _ => yes) (fun n1 => ?_))
 refine Ei _ (Ai (cell_blk B1 rfl) ?_)
 refine Ai rfl (Ai (fun _ => yes) (fun n2 => ?_))
 refine Ei _ (Ai (cell_blk B1 rfl) ?_)
 refine Ai rfl (Ai (fun _ => yes) (fun n3 => ?_))
 refine Ai rfl (Ai (fun _ => yes) (fun n4 => ?_))
 have ht := s.text
 -- the pairs
 refine loop_intro (fun i : Nat × Int => [(1, .pointer (some ⟨b1, 0, none⟩)), (3, .int .i64 i.2), (4, .int .i64 i.1)]) (fun i h' => i.1 ≤ t.pairs.length ∧ h' = h1 ∧ 0 ≤ i.2 ∧ i.2 ≤ 2000 ∧ ∀ x ∈ t.pairs.take i.1, x.name.size ≤ 2000 ∧ x.text.size ≤ 2000) (fun i => t.pairs.length - i.1) (0, t.text.size)
  ⟨rfl, rfl, rfl, trivial⟩ ⟨Nat.zero_le _, rfl, by simp only; omega, by simp only; omega, by simp⟩ ?_
 rintro ⟨k, n⟩ h3 ⟨hk, h32, hn0, hn1, hps⟩
 have h32 := h32.symm
 subst h32
 simp only at hk hn0 hn1 hps
 refine Ei _ (Ai (cell_blk B1 rfl) ?_)
 refine Ai rfl (Ai (fun hlt => ?_) (fun hlt => ?_))
 ·have hkk : k < t.pairs.length := by omega
  obtain ⟨b3, o, rfl⟩ := hp.addr (by omega)
  have hcs := hp.cells encP_len (i := k) (x := t.pairs[k]) (by simp [hkk])
  obtain ⟨z1, z2⟩ := s.ps t.pairs[k] (List.getElem_mem hkk)
  refine Ei _ (Ai (cell_blk B1 rfl) ?_)
  refine Ai (by omega) (Ai (by omega) (Ei _ (Ai (hcs 0 _ rfl) ?_)))
  refine Ai rfl (fun y hy => ?_)
  have hy := add_in hy (by omega) (by omega)
  refine Ei _ (Ai (cell_blk B1 rfl) ?_)
  refine Ai (by omega) (Ai (by omega) (Ei _ (Ai (hcs 1 _ rfl) ?_)))
  refine Ai rfl (fun w hw => ?_)
  have hw := add_in hw (by omega) (by omega)
  refine Ai rfl (Ai (fun _ => yes) (fun n5 => ?_))
  refine Ai rfl (fun z hz => ?_)
  have hz := add_in hz (by omega) (by omega)
  subst hz
  refine Ai rfl (Ei (k + 1, w) (Ai ?_ (Ai ?_ ?_)))
  ·exact ⟨rfl, rfl, rfl, trivial⟩
  ·refine ⟨by simp only; omega, rfl, by simp only; omega, by simp only; omega, fun q hq => ?_⟩
   simp only at hq
   rw [take_snoc t.pairs k hkk] at hq
   rcases List.mem_append.1 hq with hq | hq
   ·exact hps q hq
   ·have : q = t.pairs[k] := by simpa using hq
    rw [this]; omega
  ·simp only; omega
 have hkl : k = t.pairs.length := by omega
 rw [hkl, List.take_length] at hps
 clear hlt hkl hk
 -- the list
 refine loop_intro (fun i : Nat × Int => [(1, .pointer (some ⟨b1, 0, none⟩)), (3, .int .i64 i.2), (5, .int .i64 i.1)]) (fun i h' => i.1 ≤ t.list.length ∧ h' = h1 ∧ 0 ≤ i.2 ∧ i.2 ≤ 2000 ∧ ∀ x ∈ t.list.take i.1, x.size ≤ 2000) (fun i => t.list.length - i.1) (0, n)
  ⟨rfl, rfl, rfl, trivial⟩ ⟨Nat.zero_le _, rfl, by simp only; omega, by simp only; omega, by simp⟩ ?_
 clear hn0 hn1
 rintro ⟨k, n⟩ h3 ⟨hk, h32, hn0, hn1, hls⟩
 have h32 := h32.symm
 subst h32
 simp only at hk hn0 hn1 hls
 refine Ei _ (Ai (cell_blk B1 rfl) ?_)
 refine Ai rfl (Ai (fun hlt => ?_) (fun hlt => ?_))
 ·have hkk : k < t.list.length := by omega
  obtain ⟨b3, o, rfl⟩ := hl.addr (by omega)
  have hcs := hl.cells encS_len (i := k) (x := t.list[k]) (by simp [hkk])
  have z1 := s.ls t.list[k] (List.getElem_mem hkk)
  refine Ei _ (Ai (cell_blk B1 rfl) ?_)
  refine Ai (by omega) (Ai (by omega) (Ei _ (Ai (hcs 0 _ rfl) ?_)))
  refine Ai rfl (fun w hw => ?_)
  have hw := add_in hw (by omega) (by omega)
  refine Ai rfl (Ai (fun _ => yes) (fun n5 => ?_))
  refine Ai rfl (fun z hz => ?_)
  have hz := add_in hz (by omega) (by omega)
  subst hz
  refine Ai rfl (Ei (k + 1, w) (Ai ?_ (Ai ?_ ?_)))
  ·exact ⟨rfl, rfl, rfl, trivial⟩
  ·refine ⟨by simp only; omega, rfl, by simp only; omega, by simp only; omega, fun q hq => ?_⟩
   simp only at hq
   rw [take_snoc t.list k hkk] at hq
   rcases List.mem_append.1 hq with hq | hq
   ·exact hls q hq
   ·have : q = t.list[k] := by simpa using hq
    rw [this]; omega
  ·simp only; omega
 have hkl : k = t.list.length := by omega
 rw [hkl, List.take_length] at hls
 clear hlt hkl hk
 -- the ranks
 refine loop_intro (fun i : Nat × Int => [(1, .pointer (some ⟨b1, 0, none⟩)), (3, .int .i64 i.2), (6, .int .i64 i.1)]) (fun i h' => i.1 ≤ t.ranks.length ∧ h' = h1 ∧ 0 ≤ i.2 ∧ i.2 ≤ 2000 ∧ ∀ x ∈ t.ranks.take i.1, x.name.size ≤ 2000) (fun i => t.ranks.length - i.1) (0, n)
  ⟨rfl, rfl, rfl, trivial⟩ ⟨Nat.zero_le _, rfl, by simp only; omega, by simp only; omega, by simp⟩ ?_
 clear hn0 hn1
 rintro ⟨k, n⟩ h3 ⟨hk, h32, hn0, hn1, hrs⟩
 have h32 := h32.symm
 subst h32
 simp only at hk hn0 hn1 hrs
 refine Ei _ (Ai (cell_blk B1 rfl) ?_)
 refine Ai rfl (Ai (fun hlt => ?_) (fun hlt => ?_))
 ·have hkk : k < t.ranks.length := by omega
  obtain ⟨b3, o, rfl⟩ := hr.addr (by omega)
  have hcs := hr.cells encR_len (i := k) (x := t.ranks[k]) (by simp [hkk])
  have z1 := s.rs t.ranks[k] (List.getElem_mem hkk)
  refine Ei _ (Ai (cell_blk B1 rfl) ?_)
  refine Ai (by omega) (Ai (by omega) (Ei _ (Ai (hcs 0 _ rfl) ?_)))
  refine Ai rfl (fun w hw => ?_)
  have hw := add_in hw (by omega) (by omega)
  refine Ai rfl (Ai (fun _ => yes) (fun n5 => ?_))
  refine Ai rfl (fun z hz => ?_)
  have hz := add_in hz (by omega) (by omega)
  subst hz
  refine Ai rfl (Ei (k + 1, w) (Ai ?_ (Ai ?_ ?_)))
  ·exact ⟨rfl, rfl, rfl, trivial⟩
  ·refine ⟨by simp only; omega, rfl, by simp only; omega, by simp only; omega, fun q hq => ?_⟩
   simp only at hq
   rw [take_snoc t.ranks k hkk] at hq
   rcases List.mem_append.1 hq with hq | hq
   ·exact hrs q hq
   ·have : q = t.ranks[k] := by simpa using hq
    rw [this]; omega
  ·simp only; omega
 have hkl : k = t.ranks.length := by omega
 rw [hkl, List.take_length] at hrs
 exact ⟨⟨false, rfl, fun _ => ⟨by omega, by omega, by omega, by omega, hps, hls, hrs⟩⟩, hc⟩
theorem vast9_calls {h : Heap} {v u : Value} {l : List RX} {d : List ByteArray} (hv : SL encX h v l) (hu : SL encS h u d) (g : GX h l) (f : XFit l) (fd : SFit d) :
  CallsH Tryz.prog 12 [v, u] h (Ret fun r h' => (∃ b, r = .bool b ∧ (b = false → NVast l ∧ SSmall d)) ∧ Chg [] h h') := by
 have fl := f.len
 have fdl := fd.len
 obtain ⟨a, c, rfl, hlc⟩ := hv.form
 obtain ⟨a', c', rfl, hlc'⟩ := hu.form
 have yes : ∀ h', Chg [] h h' → Ret (fun r h' => (∃ b, r = .bool b ∧ (b = false → NVast l ∧ SSmall d)) ∧ Chg [] h h') (.returned (retV [Value.bool true])) h' := fun h' hc => ⟨⟨true, rfl, fun h => by cases h⟩, hc⟩
 refine f12_calls (by simp) ?_
 refine Ai rfl (Ai (fun _ => yes h (Chg.refl h)) (fun n1 => ?_))
 refine Ai rfl (Ai (fun _ => yes h (Chg.refl h)) (fun n2 => ?_))
 refine loop_intro (fun k : Nat => [(0, .slice a l.length c), (1, .slice a' d.length c'), (5, .int .i64 k)]) (fun k h' => k ≤ l.length ∧ Chg [] h h' ∧ ∀ x ∈ l.take k, x.key.size ≤ 300 ∧ Small x.thing) (fun k => l.length - k) 0
  ⟨rfl, rfl, rfl, trivial⟩ ⟨Nat.zero_le _, Chg.refl h, by simp⟩ ?_
 rintro k h1 ⟨hk, hc1, hall⟩
 have hv1 := hv.ext hc1
 refine Ai rfl (Ai (fun ht => ?_) (fun ht => ?_))
 ·have hlt : k < l.length := by omega
  obtain ⟨b, o, rfl⟩ := hv1.addr (by omega)
  have hcs := hv1.cells encX_len (i := k) (x := l[k]) (by simp [hlt])
  have hmem : l[k] ∈ l := List.getElem_mem hlt
  have hkz := f.keys _ hmem
  refine Ai (by omega) (Ai (by omega) (Ei _ (Ai (hcs 0 _ rfl) ?_)))
  refine Ai rfl (Ai (fun _ => yes h1 hc1) (fun n3 => ?_))
  refine Ai (by omega) (Ai (by omega) (Ei l[k].vs (Ai l[k].len (Ai (cells_vs hcs) ?_))))
  refine call_ret (large9_calls ((g.ext hc1) _ hmem) (f.fits _ hmem) (f.sized _ hmem)) ?_
  rintro _ h2 ⟨⟨b2, rfl, hsm⟩, hc2⟩
  cases b2 with
  |true => exact yes h2 (hc1.nil hc2)
  |false =>
   refine Ai rfl (fun z hz => ?_)
   have hz := add_in hz (by omega) (by omega)
   subst hz
   refine Ai rfl (Ei (k + 1) (Ai ?_ (Ai ?_ ?_)))
   ·exact ⟨rfl, rfl, rfl, trivial⟩
   ·refine ⟨by omega, hc1.nil hc2, fun x hx => ?_⟩
    rw [take_snoc l k hlt, List.mem_append, List.mem_singleton] at hx
    rcases hx with hx | rfl
    ·exact hall x hx
    ·exact ⟨by omega, hsm rfl⟩
   ·omega
 have hkl : k = l.length := by omega
 rw [hkl, List.take_length] at hall
 clear hkl ht hk hv1
 have nv : NVast l := ⟨by omega, fun x hx => (hall x hx).1, fun x hx => (hall x hx).2⟩
 refine loop_intro (fun k : Nat => [(1, .slice a' d.length c'), (6, .int .i64 k)]) (fun k h' => k ≤ d.length ∧ Chg [] h h' ∧ ∀ e ∈ d.take k, e.size ≤ 300) (fun k => d.length - k) 0
  ⟨rfl, rfl, trivial⟩ ⟨Nat.zero_le _, hc1, by simp⟩ ?_
 clear k hc1
 rintro k h1 ⟨hk, hc1, hall⟩
 have hu1 := hu.ext hc1
 refine Ai rfl (Ai (fun ht => ?_) (fun ht => ?_))
 ·have hlt : k < d.length := by omega
  obtain ⟨b, o, rfl⟩ := hu1.addr (by omega)
  have hcs := hu1.cells encS_len (i := k) (x := d[k]) (by simp [hlt])
  have z1 := fd.each _ (List.getElem_mem hlt)
  refine Ai (by omega) (Ai (by omega) (Ei _ (Ai (hcs 0 _ rfl) ?_)))
  refine Ai rfl (Ai (fun _ => yes h1 hc1) (fun n3 => ?_))
  refine Ai rfl (fun z hz => ?_)
  have hz := add_in hz (by omega) (by omega)
  subst hz
  refine Ai rfl (Ei (k + 1) (Ai ?_ (Ai ?_ ?_)))
  ·exact ⟨rfl, rfl, trivial⟩
  ·refine ⟨by omega, hc1, fun x hx => ?_⟩
   rw [take_snoc d k hlt, List.mem_append, List.mem_singleton] at hx
   rcases hx with hx | rfl
   ·exact hall x hx
   ·omega
  ·omega
 have hkl : k = d.length := by omega
 rw [hkl, List.take_length] at hall
 exact ⟨⟨false, rfl, fun _ => ⟨nv, ⟨by omega, hall⟩⟩⟩, hc1⟩
theorem known9_ret {h : Heap} : CallsH Tryz.prog 13 [] h (Ret fun r h' => r = .bool true ∧ Chg [] h h') := by
 refine f13_calls (by simp) ?_
 refine call_ret New_calls ?_
 rintro _ h1 ⟨kb, sb, mb, rfl, ks, hm, _, _, _, c1⟩
 have kr : KR h1 kb sb mb 0 [] := ⟨ks, hm, by simp, by simp, by simp, by simp, by simp, by simp⟩
 have hs : Sorted [] [] := ⟨List.Pairwise.nil, by simp⟩
 intro b2 h2 g2
 have sa : SL encS h2 (.slice (some ⟨b2, 0, none⟩) 3 3) [⟨#[115, 97, 100, 100]⟩, ⟨#[97]⟩, ⟨#[109]⟩] := by
  refine ⟨_, 3, rfl, Nat.le_refl _, ?_⟩
  exact cells_blk g2.blk
 have s9 : S9 [] := fun p hp => (nomatch hp)
 have hin : InS [] := fun p hp => (nomatch hp)
 refine call_ret (do9_calls (now := 0) (kr.ext g2.chg) sa (by simp) (by decide) (by kernel_rfl) fun h3 ab av' hx x => sadd9 ⟨kr.ext g2.chg, hs, hx⟩ s9 hin (fun s hs => ?_) x) ?_
 ·simp at hs
  rcases hs with rfl | rfl <;> decide
 rintro r h3 ⟨c3, hr⟩
 have e : cSadd [] 0 [⟨#[97]⟩, ⟨#[109]⟩] = .ok (rep 3 1 noText, [addE ⟨#[97]⟩ ⟨#[109]⟩]) := by kernel_rfl
 rw [e] at hr
 obtain ⟨vq, lv, rfl, ⟨ra, rn, rc, rfl, sl, fr⟩, hsl, hfr⟩ := hr
 obtain ⟨la, lc, rfl, _⟩ := hsl.form
 obtain ⟨lb, lo, rfl⟩ := hsl.addr (by simp)
 intro b9 h4 g4
 have w := (St.start h3).new g4
 refine w.st1 0 rfl rfl rfl rfl fun h5 w => ?_
 have hcs := (hsl.ext w.chg).cells encD_len (i := 0) (x := addE ⟨#[97]⟩ ⟨#[109]⟩) rfl
 refine w.ld1 0 rfl rfl ?_
 refine Ai rfl (Ai (fun _ => ?_) (fun hne => absurd rfl hne))
 refine w.ld1 0 rfl rfl ?_
 refine Ai rfl (Ai (fun _ => ?_) (fun hne => absurd rfl hne))
 refine Ai rfl (Ai (fun _ => ?_) (fun hne => absurd rfl hne))
 refine Ai (by decide) (Ai (by simp) (Ei _ (Ai (by simpa using hcs 0 _ rfl) ?_)))
 refine Ai rfl (Ai (fun _ => ?_) (fun hne => absurd rfl hne))
 refine Ai (by decide) (Ai (by simp) (Ei _ (Ai (by simpa using hcs 2 _ rfl) ?_)))
 refine Ai (fun _ => ?_) (fun hne => absurd rfl hne)
 exact ⟨rfl, ((c1.nil g2.chg).nil c3).nil w.chg⟩
theorem kn9 {h h2 : Heap} {K : Value → Heap → Prop} {Qp : List PanicEntry → Heap → Prop} (c2 : Chg [] h h2) (hK : ∀ h', Chg [] h h' → K (.bool true) h') : CallsH Tryz.prog 13 [] h2 (after K Qp) :=
 call_ret known9_ret fun v h' hv => by rw [hv.1]; exact hK h' (c2.nil hv.2)
theorem with9_calls {h : Heap} {av nv : Value} {A N : List ByteArray} (ho : OL encS 1 h av A) (hs : SL encS h nv N) (hl : A.length + N.length ≤ 1000) : CallsH Tryz.prog 15 [nv, av] h (Ret fun r h' => SL encS h' r (A ++ N) ∧ Chg (vblk av) h h') := by
 obtain ⟨a, c, rfl, _⟩ := ho.form
 obtain ⟨a', c', rfl, _⟩ := hs.form
 refine f15_calls (by simp) ?_
 refine app_own encS_len encS_one rfl ho hs (by omega) fun v' h' ho' hc hb => ?_
 exact ⟨ho'.sl, hc⟩
theorem avast9_calls {h : Heap} {nv : Value} {N : List ByteArray} {s u : ByteArray} (hs : SL encS h nv N) (fd : SFit N) (z1 : s.size < 4611686018427387904) (z2 : u.size < 4611686018427387904) : CallsH Tryz.prog 11 [.agg ⟨[nv, .string s, .string u]⟩] h
  (Ret fun r h' => (∃ b, r = .bool b ∧ (b = false → N.length ≤ 6 ∧ (∀ x ∈ N, x.size ≤ 300) ∧ s.size ≤ 300 ∧ u.size ≤ 300)) ∧ Chg [] h h') := by
 obtain ⟨a, c, rfl, _⟩ := hs.form
 have gn : GX h [] := fun x hx => (nomatch hx)
 have fx : XFit [] := ⟨by decide, fun x hx => (nomatch hx), fun x hx => (nomatch hx), fun x hx => (nomatch hx)⟩
 have fl := fd.len
 refine f11_calls (by simp) ?_
 intro b1 h1 g1
 have w := (St.start h).new g1
 refine w.ld1 0 rfl rfl ?_
 refine Ai rfl (Ai (fun hgt => ?_) (fun hle => ?_))
 ·exact ⟨⟨true, rfl, fun hb => by cases hb⟩, w.chg⟩
 refine w.ld1 0 rfl rfl ?_
 refine call_ret (vast9_calls SL.nil (hs.ext w.chg) (gn.ext w.chg) fx fd) ?_
 rintro _ h2 ⟨⟨b, rfl, hb⟩, c2⟩
 have w := w.ext c2
 cases b with
 |true => exact ⟨⟨true, rfl, fun hb => by cases hb⟩, w.chg⟩
 |false =>
  refine w.ld1 0 rfl rfl ?_
  refine w.ld1 0 rfl rfl ?_
  intro b3 h3 g3
  have w := w.ext g3.chg
  refine call_ret (vast9_calls SL.nil (d := [s, u]) ⟨_, 2, rfl, Nat.le_refl _, by exact cells_blk g3.blk⟩ (gn.ext w.chg) fx ⟨by simp, fun e he => by simp at he; rcases he with rfl | rfl <;> assumption⟩) ?_
  rintro _ h4 ⟨⟨b', rfl, hb'⟩, c4⟩
  have w := w.ext c4
  cases b' with
  |true => exact ⟨⟨true, rfl, fun hb => by cases hb⟩, w.chg⟩
  |false => exact ⟨⟨false, rfl, fun _ => ⟨by omega, (hb rfl).2.each, (hb' rfl).2.each s (by simp), (hb' rfl).2.each u (by simp)⟩⟩, w.chg⟩
set_option maxHeartbeats 2000000 in
theorem CollsSet_calls {h : Heap} {v nv : Value} {l : List RX} {N : List ByteArray} {s u : ByteArray} {now : Int} (hv : SL encX h v l) (gX : GX h l) (hxf : XFit l) (unX : ∀ y ∈ l, In64 y.thing.unt) (riX : ∀ y ∈ l, ∀ r ∈ y.thing.ranks, In64 r.score) (hs : SL encS h nv N) (fd : SFit N) (z1 : s.size < 4611686018427387904) (z2 : u.size < 4611686018427387904) (hla : LaidN h) (ht : K5.TabH h) :
  CallsH Tryz.prog 5 [v, .int .i64 now, .agg ⟨[nv, .string s, .string u]⟩] h (Ret fun r h' => r = .bool true ∧ Chg [] h h') := by
 obtain ⟨na, nc, rfl, _⟩ := hs.form
 refine f5_calls (by simp) ?_
 intro b3 h1 g1
 have w : St [] h h1 [.b b3 [.slice na N.length nc, .string s, .string u]] := (St.start h).new g1
 refine w.ldw 0 rfl rfl ?_
 refine call_ret (avast9_calls (hs.ext w.chg) fd z1 z2) ?_
 rintro _ h4 ⟨⟨b, rfl, hb⟩, c4⟩
 have w := w.ext c4
 cases b with
 |true => exact kn9 w.chg fun h' c => Ai rfl c
 |false =>
  obtain ⟨n6, n300, zs, zu⟩ := hb rfl
  refine call_ret (vast9_calls (hv.ext w.chg) SL.nil (gX.ext w.chg) hxf ⟨by decide, fun e he => (nomatch he)⟩) ?_
  rintro _ h5 ⟨⟨b', rfl, hb'⟩, c5⟩
  have w := w.ext c5
  cases b' with
  |true => exact kn9 w.chg fun h' c => Ai rfl c
  |false =>
   obtain ⟨nv, _⟩ := hb' rfl
   refine w.ld1 0 rfl rfl ?_
   refine Ai rfl (Ai (fun hlt => ?_) (fun hge => ?_))
   ·exact kn9 w.chg fun h' c => Ai rfl c
   have hpos : 0 < N.length := by omega
   obtain ⟨nb, no, rfl⟩ := hs.addr hpos
   obtain ⟨n0, hn0⟩ : ∃ n0, N[0]? = some n0 := ⟨_, List.getElem?_eq_getElem hpos⟩
   have zn : n0.size ≤ 300 := n300 n0 (List.mem_of_getElem? hn0)
   have hz9 : ∀ a ∈ s :: N, a.size ≤ 300 := fun a ha => by
    rcases List.mem_cons.1 ha with rfl | ha
    ·exact zs
    ·exact n300 a ha
   have w0 := w
   refine w.ld1 0 rfl rfl ?_
   -- SADD
   refine w.ld1 0 rfl rfl ?_
   intro b11 h11 g11
   have w := w.ext g11.chg
   refine call_ret (with9_calls (A := [vSADD, s]) (N := N) (OL.mk (rest := []) rfl (Nat.le_refl _) (by exact g11.blk) rfl) (hs.ext w.chg) (by simp only [List.length_cons, List.length_nil]; omega)) ?_
   rintro rv12 h12 ⟨sa12, c12⟩
   have i11 := g11.id
   have d12 : Chg [] h5 h12 := g11.chg.fresh c12 (fun k hk => by have hk : k = b11 := (by simpa [vblk, ablk] using hk); omega)
   have w := w0.ext d12
   refine call_ret (does9_calls (AA := vSADD :: s :: N) (hv.ext w.chg) (gX.ext w.chg) nv unX riX (hla.ext w.chg) (tab9 ht w.chg) sa12 (byP_SADD (by omega) hz9) (byR_SADD (by omega) hz9) (sh_SADD (by omega))) ?_
   rintro _ h13 ⟨rfl, c13⟩
   have w := w.ext c13
   have w0 := w
   -- SREM
   refine w.ld1 0 rfl rfl ?_
   intro b14 h14 g14
   have w := w.ext g14.chg
   refine call_ret (with9_calls (A := [vSREM, s]) (N := N) (OL.mk (rest := []) rfl (Nat.le_refl _) (by exact g14.blk) rfl) (hs.ext w.chg) (by simp only [List.length_cons, List.length_nil]; omega)) ?_
   rintro rv15 h15 ⟨sa15, c15⟩
   have i14 := g14.id
   have d15 : Chg [] h13 h15 := g14.chg.fresh c15 (fun k hk => by have hk : k = b14 := (by simpa [vblk, ablk] using hk); omega)
   have w := w0.ext d15
   refine call_ret (does9_calls (AA := vSREM :: s :: N) (hv.ext w.chg) (gX.ext w.chg) nv unX riX (hla.ext w.chg) (tab9 ht w.chg) sa15 (byP_SREM (by omega) hz9) (byR_SREM (by omega) hz9) (sh_SREM (by omega) hz9)) ?_
   rintro _ h16 ⟨rfl, c16⟩
   have w := w.ext c16
   have w0 := w
   -- SISMEMBER
   refine w.ld1 0 rfl rfl ?_
   refine sl_ix (hs.ext w.chg) 0 rfl hn0 ?_
   intro b17 h17 g17
   have w := w.ext g17.chg
   refine call_ret (does9_calls (AA := [vSISMEMBER, s, n0]) (hv.ext w.chg) (gX.ext w.chg) nv unX riX (hla.ext w.chg) (tab9 ht w.chg) (show SL encS h17 (.slice (some ⟨b17, 0, none⟩) 3 3) [vSISMEMBER, s, n0] from ⟨_, 3, rfl, Nat.le_refl _, by exact cells_blk g17.blk⟩) (byP_SISMEMBER (fun a ha => by simp at ha; rcases ha with rfl | rfl <;> assumption)) (byR_SISMEMBER (fun a ha => by simp at ha; rcases ha with rfl | rfl <;> assumption)) (sh_SISMEMBER)) ?_
   rintro _ h18 ⟨rfl, c18⟩
   have w := w.ext c18
   have w0 := w
   -- SCARD
   intro b19 h19 g19
   have w := w.ext g19.chg
   refine call_ret (does9_calls (AA := [vSCARD, s]) (hv.ext w.chg) (gX.ext w.chg) nv unX riX (hla.ext w.chg) (tab9 ht w.chg) (show SL encS h19 (.slice (some ⟨b19, 0, none⟩) 2 2) [vSCARD, s] from ⟨_, 2, rfl, Nat.le_refl _, by exact cells_blk g19.blk⟩) (byP_SCARD (fun a ha => by simp at ha; rcases ha with rfl <;> assumption)) (byR_SCARD (fun a ha => by simp at ha; rcases ha with rfl <;> assumption)) (sh_SCARD)) ?_
   rintro _ h20 ⟨rfl, c20⟩
   have w := w.ext c20
   have w0 := w
   -- SMEMBERS
   intro b21 h21 g21
   have w := w.ext g21.chg
   refine call_ret (does9_calls (AA := [vSMEMBERS, s]) (hv.ext w.chg) (gX.ext w.chg) nv unX riX (hla.ext w.chg) (tab9 ht w.chg) (show SL encS h21 (.slice (some ⟨b21, 0, none⟩) 2 2) [vSMEMBERS, s] from ⟨_, 2, rfl, Nat.le_refl _, by exact cells_blk g21.blk⟩) (byP_SMEMBERS (fun a ha => by simp at ha; rcases ha with rfl <;> assumption)) (byR_SMEMBERS (fun a ha => by simp at ha; rcases ha with rfl <;> assumption)) (sh_SMEMBERS)) ?_
   rintro _ h22 ⟨rfl, c22⟩
   have w := w.ext c22
   have w0 := w
   -- SINTER
   refine w.ld1 0 rfl rfl ?_
   intro b23 h23 g23
   have w := w.ext g23.chg
   refine call_ret (does9_calls (AA := [vSINTER, s, u]) (hv.ext w.chg) (gX.ext w.chg) nv unX riX (hla.ext w.chg) (tab9 ht w.chg) (show SL encS h23 (.slice (some ⟨b23, 0, none⟩) 3 3) [vSINTER, s, u] from ⟨_, 3, rfl, Nat.le_refl _, by exact cells_blk g23.blk⟩) (byP_SINTER (l := [u]) (by simp) (fun a ha => by simp at ha; rcases ha with rfl | rfl <;> assumption)) (byR_SINTER (l := [u]) (by simp) (fun a ha => by simp at ha; rcases ha with rfl | rfl <;> assumption)) (sh_SINTER)) ?_
   rintro _ h24 ⟨rfl, c24⟩
   have w := w.ext c24
   have w0 := w
   -- SINTER
   refine w.ld1 0 rfl rfl ?_
   intro b25 h25 g25
   have w := w.ext g25.chg
   refine call_ret (does9_calls (AA := [vSINTER, s, u, s]) (hv.ext w.chg) (gX.ext w.chg) nv unX riX (hla.ext w.chg) (tab9 ht w.chg) (show SL encS h25 (.slice (some ⟨b25, 0, none⟩) 4 4) [vSINTER, s, u, s] from ⟨_, 4, rfl, Nat.le_refl _, by exact cells_blk g25.blk⟩) (byP_SINTER (l := [u, s]) (by simp) (fun a ha => by simp at ha; rcases ha with rfl | rfl | rfl <;> assumption)) (byR_SINTER (l := [u, s]) (by simp) (fun a ha => by simp at ha; rcases ha with rfl | rfl | rfl <;> assumption)) (sh_SINTER)) ?_
   rintro _ h26 ⟨rfl, c26⟩
   have w := w.ext c26
   have w0 := w
   -- SINTER
   intro b27 h27 g27
   have w := w.ext g27.chg
   refine call_ret (does9_calls (AA := [vSINTER, s]) (hv.ext w.chg) (gX.ext w.chg) nv unX riX (hla.ext w.chg) (tab9 ht w.chg) (show SL encS h27 (.slice (some ⟨b27, 0, none⟩) 2 2) [vSINTER, s] from ⟨_, 2, rfl, Nat.le_refl _, by exact cells_blk g27.blk⟩) (byP_SINTER (l := []) (by simp) (fun a ha => by simp at ha; rcases ha with rfl <;> assumption)) (byR_SINTER (l := []) (by simp) (fun a ha => by simp at ha; rcases ha with rfl <;> assumption)) (sh_SINTER)) ?_
   rintro _ h28 ⟨rfl, c28⟩
   have w := w.ext c28
   have w0 := w
   refine call_ret known9_ret ?_
   rintro _ h9 ⟨rfl, c9⟩
   exact Ai rfl (w.chg.nil c9)
end Go.Proofs.YtjnijlnmbjjgpaaGreatDoor
namespace Go.Proofs.YtjnijlnmbjjgpaaGreatDoor
open Go Go.Sx Go.ChangeShapes Go.WideShapes Go.ChangeAt Go.RowKit
theorem own : ownKnob Tryz.prog.godebug = none := by kernel_rfl
theorem laidOut : laidOutB Tryz.prog = true := by kernel_rfl
def tab32 : List Int := [0, 1, 28, 2, 29, 14, 24, 3, 30, 22, 20, 15, 25, 17, 4, 8, 31, 27, 13, 23, 21, 19, 16, 7, 26, 12, 18, 6, 11, 5, 10, 9]
def tab64 : List Int := [0, 1, 56, 2, 57, 49, 28, 3, 61, 58, 42, 50, 38, 29, 17, 4, 62, 47, 59, 36, 45, 43, 51, 22, 53, 39, 33, 30, 24, 18, 12, 5, 63, 55, 48, 27, 60, 41, 37, 16, 46, 35, 44, 21, 52, 32, 23, 11, 54, 26, 40, 15, 34, 20, 31, 10, 25, 14, 19, 9, 13, 8, 7, 6]
def pow10 : List Int := [1, 10, 100, 1000, 10000, 100000, 1000000, 10000000, 100000000, 1000000000, 10000000000, 100000000000, 1000000000000, 10000000000000, 100000000000000, 1000000000000000, 10000000000000000, 100000000000000000, 1000000000000000000, 10000000000000000000]
def wordRange : ByteArray := ⟨#[118, 97, 108, 117, 101, 32, 111, 117, 116, 32, 111, 102, 32, 114, 97, 110, 103, 101]⟩
def wordSyntax : ByteArray := ⟨#[105, 110, 118, 97, 108, 105, 100, 32, 115, 121, 110, 116, 97, 120]⟩
def laid5 : List (String × DataW Unit) := [("math/bits.deBruijn32tab", Rows.laid_math_bits_deBruijn32tab), ("math/bits.deBruijn64tab", Rows.laid_math_bits_deBruijn64tab), ("internal/strconv.uint64pow10", Rows.laid_internal_strconv_uint64pow10), ("strconv.ErrRange", Rows.laid_strconv_ErrRange), ("strconv.ErrSyntax", Rows.laid_strconv_ErrSyntax)]
def putTab (vs : Array Value) : Obj → Obj
 |.cells _ t frozen => .cells vs t frozen
 |o => o
noncomputable def bare (os : Os) : World := World.holding Tryz.prog os ⟨#[], #[], []⟩
noncomputable def laidWorld (os : Os) : World :=
 { bare os with heap := ((((((bare os).heap.modify 2 (putTab (tab32.map fun z => Value.int .u8 z).toArray)).modify 3 (putTab (tab64.map fun z => Value.int .u8 z).toArray)).modify 0 (putTab (pow10.map fun z => Value.int .u64 z).toArray)).modify 5
  (putTab #[.iface 348 (.pointer (some ⟨(bare os).heap.size, 0, none⟩))])).modify 4 (putTab #[.iface 348 (.pointer (some ⟨(bare os).heap.size + 1, 0, none⟩))])) ++
  #[.cells #[.string wordRange] 350 (0, 0), .cells #[.string wordSyntax] 350 (0, 0)] }
theorem laid_met (os : Os) (args : Array Value) : laidMet Tryz.prog laid5 ((laidWorld os).forCall (fun _ _ => 0) ⟨#[], args, []⟩).memory :=
 laidMet_of_run' 8 (by kernel_rfl) (by kernel_rfl)
theorem int_arg {P : Program} {W : World} {b0 : Nat} {r : Reach} {t : TypeId} {v : Value} (ht : P.underlying t = some (.int .i64)) (hval : Value.okWide P W r b0 t v) :
  ∃ n, v = .int .i64 n := by
 simp only [Value.okWide, Cell.okWide, Cell.ok, ht] at hval
 split at hval <;> simp_all
theorem len2 {α : Type} {l : List α} (h : l.length = 2) : ∃ a b, l = [a, b] := by
 match l, h with
 |[a, b], _ => exact ⟨a, b, rfl⟩
theorem len7 {α : Type} {l : List α} (h : l.length = 7) : ∃ a0 a1 a2 a3 a4 a5 a6, l = [a0, a1, a2, a3, a4, a5, a6] := by
 match l, h with
 |[a0, a1, a2, a3, a4, a5, a6], _ => exact ⟨a0, a1, a2, a3, a4, a5, a6, rfl⟩
theorem len8 {α : Type} {l : List α} (h : l.length = 8) : ∃ a0 a1 a2 a3 a4 a5 a6 a7, l = [a0, a1, a2, a3, a4, a5, a6, a7] := by
 match l, h with
 |[a0, a1, a2, a3, a4, a5, a6, a7], _ => exact ⟨a0, a1, a2, a3, a4, a5, a6, a7, rfl⟩
section
variable {H : Type} {enc : TypeId × Value → H} {W : World} {base n : Nat} {sp : Nat → Bool} {held : Bool} {cs : List Value} {x : DataW H × List MemPlace}
theorem open_rank (h : DataW.trod enc Tryz.prog W base sp held n 110 cs = some x) (hw : Wts Tryz.prog 110 x.1) : ∃ a : Rank, cs = encR a ∧ a.name.size < 1000000000000000000 ∧ (-9223372036854775808 ≤ a.score ∧ a.score ≤ 9223372036854775807) := by
 obtain ⟨xs, m, rfl, hx, hl, hls, hi⟩ := DataW.trod_struct Tryz.underlying110 h
 have c9 : Tryz.prog.cellsOf 9 = 1 := by kernel_rfl
 have c2 : Tryz.prog.cellsOf 2 = 1 := by kernel_rfl
 have cc : Tryz.prog.cellsOf 110 = 2 := by kernel_rfl
 rw [cc] at hl
 obtain ⟨u, v, rfl⟩ := len2 hl
 obtain ⟨y, z, rfl⟩ := len2 (l := xs) hls
 have h0 := fld hi 0 9 0 1 rfl rfl rfl c9 rfl rfl
 have h1 := fld hi 1 2 1 1 rfl rfl rfl c2 rfl rfl
 have hw0 : Wts Tryz.prog 9 y.1 := by
  intro k hk
  refine hw k ?_
  rw [hx]
  simp only [DataW.weights, Tryz.underlying110, List.map_cons, List.map_nil, DataW.weightsEach, List.mem_append]
  exact .inl hk
 obtain ⟨nm, e0, hs⟩ := str_of_trod Tryz.underlying9 h0 hw0
 obtain ⟨k, e1, _, wf1⟩ := DataW.trod_int Tryz.underlying2 h1
 have un1 : -9223372036854775808 ≤ k ∧ k ≤ 9223372036854775807 := by
  unfold Lit.wf at wf1
  simp only [Bool.and_eq_true, decide_eq_true_eq] at wf1
  exact wf1
 obtain ⟨rfl⟩ := e0
 obtain ⟨rfl⟩ := e1
 have := reachBytes_lt
 exact ⟨⟨nm, k⟩, rfl, by show nm.size < _; omega, un1⟩
theorem open_pair (h : DataW.trod enc Tryz.prog W base sp held n 108 cs = some x) (hw : Wts Tryz.prog 108 x.1) : ∃ a : Pair, cs = encP a ∧ a.name.size < 1000000000000000000 ∧ a.text.size < 1000000000000000000 := by
 obtain ⟨xs, m, rfl, hx, hl, hls, hi⟩ := DataW.trod_struct Tryz.underlying108 h
 have c9 : Tryz.prog.cellsOf 9 = 1 := by kernel_rfl
 have cc : Tryz.prog.cellsOf 108 = 2 := by kernel_rfl
 rw [cc] at hl
 obtain ⟨u, v, rfl⟩ := len2 hl
 obtain ⟨y, z, rfl⟩ := len2 (l := xs) hls
 have h0 := fld hi 0 9 0 1 rfl rfl rfl c9 rfl rfl
 have h1 := fld hi 1 9 1 1 rfl rfl rfl c9 rfl rfl
 have hw0 : Wts Tryz.prog 9 y.1 := by
  intro k hk
  refine hw k ?_
  rw [hx]
  simp only [DataW.weights, Tryz.underlying108, List.map_cons, List.map_nil, DataW.weightsEach, List.mem_append]
  exact .inl hk
 have hw1 : Wts Tryz.prog 9 z.1 := by
  intro k hk
  refine hw k ?_
  rw [hx]
  simp only [DataW.weights, Tryz.underlying108, List.map_cons, List.map_nil, DataW.weightsEach, List.mem_append]
  exact .inr (.inl hk)
 obtain ⟨nm, e0, hs⟩ := str_of_trod Tryz.underlying9 h0 hw0
 obtain ⟨tx, e1, hs1⟩ := str_of_trod Tryz.underlying9 h1 hw1
 obtain ⟨rfl⟩ := e0
 obtain ⟨rfl⟩ := e1
 have := reachBytes_lt
 exact ⟨⟨nm, tx⟩, rfl, by show nm.size < _; omega, by show tx.size < _; omega⟩
theorem open_s (h : DataW.trod enc Tryz.prog W base sp held n 9 cs = some x) (hw : Wts Tryz.prog 9 x.1) : ∃ a : ByteArray, cs = encS a ∧ a.size < 1000000000000000000 := by
 obtain ⟨nm, e0, hs⟩ := str_of_trod Tryz.underlying9 h hw
 have := reachBytes_lt
 exact ⟨nm, e0, by omega⟩
set_option maxRecDepth 100000 in
theorem open_thing (h : DataW.trod enc Tryz.prog W base sp held n 27 cs = some x) (hw : Wts Tryz.prog 27 x.1) :
  ∃ t : Thing, TH W.heap cs t ∧ Fits t ∧ Sized t ∧ cs.length = 7 ∧ (-9223372036854775808 ≤ t.unt ∧ t.unt ≤ 9223372036854775807) ∧ ∀ r ∈ t.ranks, -9223372036854775808 ≤ r.score ∧ r.score ≤ 9223372036854775807 := by
 obtain ⟨xs, m, rfl, hx, hl, hls, hi⟩ := DataW.trod_struct Tryz.underlying27 h
 have hd : x.1 = .agg (xs.map (·.1)) := congrArg Prod.fst hx
 have c9 : Tryz.prog.cellsOf 9 = 1 := by kernel_rfl
 have c2 : Tryz.prog.cellsOf 2 = 1 := by kernel_rfl
 have c4 : Tryz.prog.cellsOf 4 = 1 := by kernel_rfl
 have c22 : Tryz.prog.cellsOf 22 = 1 := by kernel_rfl
 have c23 : Tryz.prog.cellsOf 23 = 1 := by kernel_rfl
 have c24 : Tryz.prog.cellsOf 24 = 1 := by kernel_rfl
 have c25 : Tryz.prog.cellsOf 25 = 1 := by kernel_rfl
 have c27 : Tryz.prog.cellsOf 27 = 7 := by kernel_rfl
 rw [c27] at hl
 obtain ⟨a0, a1, a2, a3, a4, a5, a6, rfl⟩ := len7 hl
 obtain ⟨y0, y1, y2, y3, y4, y5, y6, rfl⟩ := len7 (l := xs) hls
 have h0 := fld hi 0 22 0 1 rfl rfl rfl c22 rfl rfl
 have h1 := fld hi 1 9 1 1 rfl rfl rfl c9 rfl rfl
 have h2 := fld hi 2 23 2 1 rfl rfl rfl c23 rfl rfl
 have h3 := fld hi 3 24 3 1 rfl rfl rfl c24 rfl rfl
 have h4 := fld hi 4 25 4 1 rfl rfl rfl c25 rfl rfl
 have h5 := fld hi 5 4 5 1 rfl rfl rfl c4 rfl rfl
 have h6 := fld hi 6 2 6 1 rfl rfl rfl c2 rfl rfl
 have hwk : ∀ (i t : Nat) (y : DataW H × List MemPlace), [22, 9, 23, 24, 25, 4, 2][i]? = some t → [y0, y1, y2, y3, y4, y5, y6][i]? = some y → Wts Tryz.prog t y.1 := by
  intro i t y ht hy k hk
  refine hw k ?_
  rw [hd]
  simp only [DataW.weights, Tryz.underlying27]
  refine DataW.weights_mem_each (j := i) (t := t) (d := y.1) ?_ ?_ k hk
  ·exact ht
  ·rw [List.getElem?_map, hy]; rfl
 obtain ⟨kd, e0, _, _⟩ := DataW.trod_int Tryz.underlying22 h0
 obtain ⟨tx, e1, hs1⟩ := str_of_trod Tryz.underlying9 h1 (hwk 1 9 y1 rfl rfl)
 obtain ⟨lp, sp, gp, np⟩ := open_cell (k := 2) (en := encP) Tryz.underlying23 (by kernel_rfl) (by decide) encP_len (fun n cs x h hw => open_pair h hw) h2 (hwk 2 23 y2 rfl rfl)
 obtain ⟨ll, sl, gl, nl⟩ := open_cell (k := 1) (en := encS) Tryz.underlying24 (by kernel_rfl) (by decide) encS_len (fun n cs x h hw => open_s h hw) h3 (hwk 3 24 y3 rfl rfl)
 obtain ⟨lr, sr, gr, nr⟩ := open_cell (k := 2) (en := encR) Tryz.underlying25 (by kernel_rfl) (by decide) encR_len (fun n cs x h hw => open_rank h hw) h4 (hwk 4 25 y4 rfl rfl)
 obtain ⟨bu, e5, _⟩ := DataW.trod_bool Tryz.underlying4 h5
 obtain ⟨un, e6, _, wf6⟩ := DataW.trod_int Tryz.underlying2 h6
 have un6 : -9223372036854775808 ≤ un ∧ un ≤ 9223372036854775807 := by
  unfold Lit.wf at wf6
  simp only [Bool.and_eq_true, decide_eq_true_eq] at wf6
  exact wf6
 obtain ⟨rfl⟩ := e0
 obtain ⟨rfl⟩ := e1
 obtain ⟨rfl⟩ := e5
 obtain ⟨rfl⟩ := e6
 have b32 : Tryz.prog.bytesOf 108 = 32 := by kernel_rfl
 have b9 : Tryz.prog.bytesOf 9 = 16 := by kernel_rfl
 have b34 : Tryz.prog.bytesOf 110 = 24 := by kernel_rfl
 rw [b32] at np
 rw [b9] at nl
 rw [b34] at nr
 have := reachBytes_lt
 refine ⟨⟨kd, tx, lp, ll, lr, bu, un⟩, ⟨_, _, _, rfl, sp, sl, sr⟩, ⟨?_, ?_, ?_⟩, ⟨?_, gp, gl, fun r hr => (gr r hr).1⟩, rfl, un6, fun r hr => (gr r hr).2⟩
 ·show lp.length < _; omega
 ·show ll.length < _; omega
 ·show lr.length < _; omega
 ·show tx.size < _; omega
structure GoodX (h : Heap) (x : RX) : Prop where
 th : TH h x.vs x.thing
 fits : Fits x.thing
 sized : Sized x.thing
 key : x.key.size < 1000000000000000000
 unt : -9223372036854775808 ≤ x.thing.unt ∧ x.thing.unt ≤ 9223372036854775807
 ri : ∀ r ∈ x.thing.ranks, -9223372036854775808 ≤ r.score ∧ r.score ≤ 9223372036854775807
set_option maxRecDepth 100000 in
theorem open_entry (h : DataW.trod enc Tryz.prog W base sp held n 29 cs = some x) (hw : Wts Tryz.prog 29 x.1) : ∃ a : RX, cs = encX a ∧ GoodX W.heap a := by
 obtain ⟨xs, m, rfl, hx, hl, hls, hi⟩ := DataW.trod_struct Tryz.underlying29 h
 have hd : x.1 = .agg (xs.map (·.1)) := congrArg Prod.fst hx
 have c9 : Tryz.prog.cellsOf 9 = 1 := by kernel_rfl
 have c7 : Tryz.prog.cellsOf 27 = 7 := by kernel_rfl
 have cc : Tryz.prog.cellsOf 29 = 8 := by kernel_rfl
 rw [cc] at hl
 obtain ⟨k0, a0, a1, a2, a3, a4, a5, a6, rfl⟩ := len8 hl
 obtain ⟨y, z, rfl⟩ := len2 (l := xs) hls
 have h0 := fld hi 0 9 0 1 rfl rfl rfl c9 rfl rfl
 have h1 := fld hi 1 27 1 7 rfl rfl rfl c7 rfl rfl
 have hwk : ∀ (i t : Nat) (w : DataW H × List MemPlace), [9, 27][i]? = some t → [y, z][i]? = some w → Wts Tryz.prog t w.1 := by
  intro i t y ht hy k hk
  refine hw k ?_
  rw [hd]
  simp only [DataW.weights, Tryz.underlying29]
  refine DataW.weights_mem_each (j := i) (t := t) (d := y.1) ?_ ?_ k hk
  ·exact ht
  ·rw [List.getElem?_map, hy]; rfl
 obtain ⟨key, e0, hz⟩ := str_of_trod Tryz.underlying9 h0 (hwk 0 9 y rfl rfl)
 obtain ⟨t, th, ft, st, hl7, un, ri⟩ := open_thing h1 (hwk 1 27 z rfl rfl)
 obtain ⟨rfl⟩ := e0
 have := reachBytes_lt
 exact ⟨⟨key, t, _, hl7, thing_one th⟩, rfl, th, ft, st, by show key.size < _; omega, un, ri⟩
set_option maxRecDepth 100000 in
theorem open_entries9 {v : Value} {d : DataW H} {ps : List MemPlace} {r : Reach} {b0 : Nat} (hval : Value.okWide Tryz.prog W r b0 32 v) (h : DataW.Trod enc Tryz.prog W base sp held 32 v d ps) (hw : Wts Tryz.prog 32 d) :
  ∃ l : List RX, SL encX W.heap v l ∧ GX W.heap l ∧ XFit l ∧ (∀ x ∈ l, -9223372036854775808 ≤ x.thing.unt ∧ x.thing.unt ≤ 9223372036854775807) ∧ ∀ x ∈ l, ∀ r ∈ x.thing.ranks, -9223372036854775808 ≤ r.score ∧ r.score ≤ 9223372036854775807 := by
 obtain ⟨n, hn⟩ := cell_arg Tryz.underlying32 hval h
 obtain ⟨l, sl, g, nl⟩ := open_cell (k := 8) (en := encX) Tryz.underlying32 (by kernel_rfl) (by decide) encX_len (fun n cs x h hw => open_entry h hw) hn hw
 have b : Tryz.prog.bytesOf 29 = 128 := by kernel_rfl
 rw [b] at nl
 have := reachBytes_lt
 exact ⟨l, sl, fun x hx => (g x hx).th, ⟨by omega, fun x hx => by have := (g x hx).key; omega, fun x hx => (g x hx).fits, fun x hx => (g x hx).sized⟩, fun x hx => (g x hx).unt, fun x hx => (g x hx).ri⟩
end
end Go.Proofs.YtjnijlnmbjjgpaaGreatDoor
namespace Go.Proofs.YtjnijlnmbjjgpaaGreatDoor
open Go Go.Sx Go.ChangeShapes Go.WideShapes Go.ChangeAt Go.RowKit
theorem trod_iface {H : Type} {enc : TypeId × Value → H} {P : Program} {w : World} {base n : Nat} {sp : Nat → Bool} {held : Bool} {t : TypeId} {cs : List Value} {x : DataW H × List MemPlace}
  (ht : (match P.underlying t with | some (.interface _) => true | _ => false) = true) (h : DataW.trod enc P w base sp held n t cs = some x) : ∃ v, cs = [v] ∧ IfaceV v := by
 obtain ⟨ms, ht⟩ : ∃ ms, P.underlying t = some (.interface ms) := by
  split at ht
  ·rename_i ms h1; exact ⟨ms, h1⟩
  ·cases ht
 cases n with
 |zero => simp [DataW.trod] at h
 |succ n =>
  simp only [DataW.trod, ht] at h
  split at h <;> first | exact ⟨_, rfl, .inl rfl⟩ | exact ⟨_, rfl, .inr ⟨_, _, rfl⟩⟩ | (exfalso; simp_all; done)
theorem errV {W : World} {n : String} {gi : Nat} {g : Nat} {t : TypeId} {cs : Array Value} {fuel : Nat} {d : DataW Unit} {p : List MemPlace} (hgi : Tryz.prog.globalNamed n = some gi) (hti : (Tryz.prog.globals[gi]?).map (·.type) = some 244)
  (hg : Tryz.prog.globalNamed n = some g) (ht : (Tryz.prog.globals[g]?).map (·.type) = some t) (hv : W.var? Tryz.prog n = some cs) (h : DataW.trod (fun _ => ()) Tryz.prog W 0 (fun _ => true) false fuel t cs.toList = some (d, p)) :
  ∃ v, cell W.heap gi 0 = some v ∧ IfaceV v := by
 obtain rfl := Option.some.inj (hgi.symm.trans hg)
 obtain rfl := Option.some.inj (hti.symm.trans ht)
 obtain ⟨v, e, hi⟩ := trod_iface (by kernel_rfl) h
 refine ⟨v, ?_, hi⟩
 unfold World.var? at hv
 rw [hgi] at hv
 have hv : (match W.heap[gi]? with | some (.cells cs _ _) => some cs | _ => none) = some cs := hv
 unfold cell
 split at hv
 ·rename_i h1
  injection hv with hv
  subst hv
  rw [h1]
  show (_ : Array Value)[0]? = _
  rw [← Array.getElem?_toList, e]; rfl
 ·cases hv
theorem laidN_of {W : World} (h : laidMetH Tryz.prog laid5 W) : LaidN W.heap := by
 have h : laidMet Tryz.prog laid5 W := h
 obtain ⟨ps, ⟨_, _, _, _, _, _, _, _, _, _, ⟨_, _, _, _, _, _, _, _, _, _, ⟨g, t, cs, fuel, p, q, hg, ht, hv, htr, ⟨g2, t2, cs2, fuel2, p2, q2, hg2, ht2, hv2, htr2, ⟨g3, t3, cs3, fuel3, p3, q3, hg3, ht3, hv3, htr3, _, _⟩, _⟩, _⟩, _⟩, _⟩, _⟩ := h
 refine ⟨?_, errV (by kernel_rfl) (by kernel_rfl) hg3 ht3 hv3 htr3, errV (by kernel_rfl) (by kernel_rfl) hg2 ht2 hv2 htr2⟩
 have hgi : Tryz.prog.globalNamed "internal/strconv.uint64pow10" = some 0 := by kernel_rfl
 have hti : (Tryz.prog.globals[0]?).map (·.type) = some 234 := by kernel_rfl
 obtain rfl := Option.some.inj (hgi.symm.trans hg)
 obtain rfl := Option.some.inj (hti.symm.trans ht)
 have hc := Lib.cells_of_tab (k := .u64) (zs := Lib.pow10Tab) (n := 20) (e := 183) (by kernel_rfl) (by kernel_rfl) (by kernel_rfl) (by kernel_rfl) htr
 unfold World.var? at hv
 rw [hgi] at hv
 have hv : (match W.heap[(0 : Nat)]? with | some (.cells cs _ _) => some cs | _ => none) = some cs := hv
 split at hv
 ·rename_i h1
  injection hv with hv
  subst hv
  exact ⟨_, _, by rw [h1, ← hc]⟩
 ·cases hv
section
variable {H : Type} {enc : TypeId × Value → H} {W : World} {base n : Nat} {sp : Nat → Bool} {held : Bool}
end
end Go.Proofs.YtjnijlnmbjjgpaaGreatDoor
namespace Go.Proofs.YtjnijlnmbjjgpaaGreatDoor
open Go Go.Sx Go.ChangeShapes Go.WideShapes Go.ChangeAt Go.RowKit
theorem g64 : Tryz.prog.globalNamed "math/bits.deBruijn64tab" = some 3 := by kernel_rfl
theorem tab64_in : ∀ i < 64, 0 ≤ tab64.getD i 0 ∧ tab64.getD i 0 ≤ 255 := by decide
theorem laid_tail {P : Program} {W : World} {x : String × DataW Unit} {l : List (String × DataW Unit)} (h : laidMet P (x :: l) W) : ∃ ps, DataW.LaidVars P W l ps := by
 obtain ⟨ps, ⟨g', t', cs, fuel, p, q, hg', ht', hvar, hd, hr, _⟩, _⟩ := h
 exact ⟨q, hr⟩
theorem tabH_of {W : World} (h : laidMetH Tryz.prog laid5 W) : K5.TabH W.heap := by
 have h' : laidMet Tryz.prog laid5 W := h
 obtain ⟨ps, g', t', cs, fuel, p, q, hg', ht', hvar, hd, _, _⟩ := laid_tail h'
 obtain rfl := Option.some.inj (g64.symm.trans hg')
 have hti : (Tryz.prog.globals[3]?).map (·.type) = some 318 := by kernel_rfl
 obtain rfl := Option.some.inj (hti.symm.trans ht')
 have hcs := Lib.cells_of_tab (k := .u8) (zs := tab64) (n := 64) (e := 5) (by kernel_rfl) (by kernel_rfl) (by kernel_rfl) (by kernel_rfl) hd
 intro i hi
 have hc := World.var?_cell g64 hvar i
 have h1 := tab64_in i hi
 refine ⟨tab64.getD i 0, h1.1, h1.2, ?_⟩
 rw [← world_cell, hc]
 have e1 : cs[i]? = cs.toList[i]? := by simp
 rw [e1, hcs]
 have hi' : i < tab64.length := hi
 simp [List.getD, hi']
end Go.Proofs.YtjnijlnmbjjgpaaGreatDoor
