/-
  Layer 9: the document's answer: the commands of lists. (Written by genrl.py.)
  Layer 9: a text in capital letters, by the program.
  Layer 9: the map of commands; Do, for a word that is a command's. (Written by gencg.py.)
  Layer 9: the document's answer: Do. (Written by genrd.py.)
  Layer 9: the document's answer: Do, for the commands of lists.
  Layer 8: replies as they stand in memory; whether two are the same.
  Layer 9: effects on things with items: all of a command's effects are done; plain.
  Layer 9: all of a command's effects are done, whatever is asked; plain.
  Layer 9: looking for a field, a member; adding; which names are new.
  Layer 9: the commands of hashes. (Written by gencI.py.)
  Layer 9: the commands of lists: LLEN, LPOP, RPOP, LINDEX, LRANGE, LSET, LPUSH, RPUSH.
  Layer 9: the commands of sets, but SINTER.
  The contracts of the functions of taborref05: what they give is what plain functions on lists give.
  The contracts of taborref05.Set and Of.
  The contract of taborref05.Of.
  The order of members, in plain Lean.
  A ranked set in the heap: its members, one behind the other, and at each height the links. Plain.
  The way down.
  Small ones: less, TrailingZeros, none.
  Links put in and taken out, height by height. Plain.
  A member put in, height by height: what holds below a height, and above. Plain.
  put.
  put, walked.
  A member taken out, height by height. Plain.
  take, walked.
  What a set's map tells; Drop, Len, Set, Score.
  Set, Score, Rank.
  begun, Of.
  from, At, Between.
  At, Between.
  Layer 9: the commands of ranked sets. (Written by gencK.py.)
  Layer 9: SINTER: a map that counts, its keys in order.
  Layer 9: Do, whatever is asked: its effects are all done.
  Layer 9: the program's answer against the document's: replies, effects, the keyspace.
  Layer 9: the commands of lists, by the program and by the document. (Written by genrp.py.)
  Layer 9: what is too much.
  Layer 9: known(), by a walk.
  Layer 9: the law of the commands of lists (taborlaw09.CollsList). (Written by genrq.py.)
  The world of a witness: the tables and errors of strconv and math/bits as they are laid.
  Layer 7: things, entries and effects opened.
  Layer 8: strconv's laid variables, as the walks want them; arguments opened.
  Layer 9: the table of math/bits as it is laid.
-/
import Derived.Test.YtjnijlnmbjjgpaaGreatDoorCards
import Derived.Test.YtjnijlnmbjjgpaaGreatDoorTie
import Derived.Deep.DeepHandedRow
import Derived.ProofKit
import Derived.Test.YtjnijlnmbjjgpaaGreatDoorZL9D
namespace Go.Proofs.YtjnijlnmbjjgpaaGreatDoor
open Go Go.Sx C
def Jd9 (res : Res) (q : Rep) (E : List Eff) (why : ByteArray) : Prop := (why = noText ∧ res = .ok (q, E)) ∨ (why ≠ noText ∧ res = .error why)
section
variable {h0 h h1 h' : Heap} {xb i : Nat} {now n m : Int} {kv av lv pv lw rv : Value} {k : List RX} {A : List ByteArray} {L E : List Eff} {why key s u : ByteArray} {t : Thing} {M : List En} {T : List Nat} {res : Res}
theorem Jd9.ok {q : Rep} {E : List Eff} (h : res = .ok (q, E)) : Jd9 res q E noText := .inl ⟨rfl, h⟩
theorem Jd9.no {q : Rep} {E : List Eff} (hw : why ≠ noText) (h : res = .error why) : Jd9 res q E why := .inr ⟨hw, h⟩
def Reply9 (h0 h : Heap) (xb : Nat) (t : Thing) (pv lw rv : Value) (key : ByteArray) (kv : Value) (now : Int) (av lv : Value) (res : Res) (r : Value) (h' : Heap) : Prop :=
 ∃ q lv' E why, RepAt h.size h' r q ∧ (∃ t' pv' lw' rv' key', RxO9 h0 h (aT xb t pv lw rv key kv now av lv [] noText) h' (aT xb t' pv' lw' rv' key' kv now av lv' E why)) ∧ Jd9 res q E why
theorem Reply9.fin {b4 : Nat} {a m : Int} {lv' : Value} {E : List Eff} (x : As h0 h (aT xb t pv lw rv key kv now av lv [] noText)) (w : St (xb :: vblk lv) h h' M) (i j : Nat) (hi : M[i]? = some (.b b4 [.int .i64 a, .int .i64 m, .string s, .slice none 0 0])) (hj : M[j]? = some (aT xb t pv lw rv key kv now av lv' E why))
  (hd : Jd9 res (rep a m s) E why) : ∃ vs, vs.length = 4 ∧ Cells h' b4 0 vs ∧ Reply9 h0 h xb t pv lw rv key kv now av lv res (.agg ⟨vs⟩) h' :=
 ⟨_, rfl, cells_blk (w.get i hi), rep a m s, lv', E, why, ⟨none, 0, 0, rfl, SL.nil, fun b hb => (nomatch (show b ∈ ([] : List Nat) from hb))⟩, ⟨t, pv, lw, rv, key, x.out w j hj⟩, hd⟩
theorem th_lists (x : TH h (cellsT t pv lw rv) t) : SL encP h pv t.pairs ∧ SL encS h lw t.list ∧ SL encR h rv t.ranks := by
 obtain ⟨p, l, r, e, h1, h2, h3⟩ := x
 simp only [cellsT, List.cons.injEq, and_true, true_and] at e
 obtain ⟨rfl, rfl, rfl⟩ := e
 exact ⟨h1, h2, h3⟩
theorem rplace_none {n : Nat} {a : Int} (hn : n ≤ 100000) (ha : In64 a) (hp : placeN n a = none) : CallsH Tryz.prog 136 [.int .i64 n, .int .i64 a] h (Ret fun r h' => r = .tuple #[.int .i64 0, .bool false] ∧ h' = h) := by
 have := rplace_calls (h := h) hn ha
 rwa [hp] at this
theorem rplace_some {n : Nat} {a : Int} (hn : n ≤ 100000) (ha : In64 a) (hp : placeN n a = some i) : CallsH Tryz.prog 136 [.int .i64 n, .int .i64 a] h (Ret fun r h' => r = .tuple #[.int .i64 i, .bool true] ∧ h' = h) := by
 have := rplace_calls (h := h) hn ha
 rwa [hp] at this
theorem rnum_some {s : ByteArray} (hs : s.size < 4611686018427387904) (hn : numOf s = some n) : CallsH Tryz.prog 132 [.string s] h (Ret fun r h' => r = .tuple #[.int .i64 n, .bool true] ∧ h' = h) := by
 have := rnum89_calls (h := h) hs
 rwa [hn] at this
structure RG9 (h0 : Heap) (kv : Value) (k : List RX) (av : Value) (A : List ByteArray) (key : ByteArray) (t : Thing) (pv lw rv : Value) : Prop where
 c : RC9 h0 kv k av A
 th : ∀ h2, Chg [] h0 h2 → TH h2 (cellsT t pv lw rv) t
 t9 : T9 t
 ks : key.size ≤ 300
 az : ∀ s ∈ A, s.size ≤ 300
 al : A.length ≤ 20
theorem rllen_calls (x : As h0 h (aT xb t pv lw rv key kv now av lv [] noText)) (g : RG9 h0 kv k av A key t pv lw rv) : CallsH Tryz.prog 61 [ptr xb, .string ⟨#[76, 76, 69, 78]⟩] h
  (Ret (Reply9 h0 h xb t pv lw rv key kv now av lv (.ok (numR t.list.length, [])))) := by
 refine f61_calls (by simp) ?_
 intro b4 h1 g1
 have w := x.st.new g1
 have hsl := fun h2 hc => (th_lists (g.th h2 hc)).2.1
 obtain ⟨la, lc, rfl, _⟩ := (hsl h0 (Chg.refl _)).form
 have t9 := g.t9
 have ln : t.list.length ≤ 2000 := t9.ls
 refine w.ldr9 1 rfl rfl ?_
 refine Ai (fun he => absurd he (by decide)) (fun _ => ?_)
 refine Ai (fun he => absurd he (by decide)) (fun _ => ?_)
 refine Ai (fun he => absurd he (by decide)) (fun _ => ?_)
 refine Ai (fun he => absurd he (by decide)) (fun _ => ?_)
 refine Ai (fun _ => ?_) (fun he => absurd rfl he)
 refine w.callv rInt9_calls fun h2 w => ?_
 refine w.st1 0 rfl rfl rfl rfl fun h3 w => ?_
 exact Reply9.fin x w 0 1 rfl rfl (Jd9.ok rfl)
theorem rlpop_calls (x : As h0 h (aT xb t pv lw rv key kv now av lv [] noText)) (g : RG9 h0 kv k av A key t pv lw rv) : CallsH Tryz.prog 61 [ptr xb, .string ⟨#[76, 80, 79, 80]⟩] h
  (Ret (Reply9 h0 h xb t pv lw rv key kv now av lv (match placeN t.list.length 0 with
   |some i => .ok (textR (t.list[i]?.getD noText), [unheadE key])
   |none => .ok (nilR, [])))) := by
 refine f61_calls (by simp) ?_
 intro b4 h1 g1
 have w := x.st.new g1
 have hsl := fun h2 hc => (th_lists (g.th h2 hc)).2.1
 obtain ⟨la, lc, rfl, _⟩ := (hsl h0 (Chg.refl _)).form
 have t9 := g.t9
 have ln : t.list.length ≤ 2000 := t9.ls
 refine w.ldr9 1 rfl rfl ?_
 refine Ai (fun he => absurd he (by decide)) (fun _ => ?_)
 refine Ai (fun he => absurd he (by decide)) (fun _ => ?_)
 refine Ai (fun _ => ?_) (fun he => absurd rfl he)
 refine Ai rfl (Ai (fun hz => ?_) (fun hz => ?_))
 ·have hz : t.list.length = 0 := by omega
  refine w.st1 0 rfl rfl rfl rfl fun h3 w => ?_
  exact Reply9.fin (a := 0) (m := 0) (s := noText) x w 0 1 rfl rfl (Jd9.ok (by rw [hz]; rfl))
 ·have hz : 0 < t.list.length := by omega
  have hp : placeN t.list.length 0 = some 0 := by unfold placeN; rw [if_neg (by omega), if_pos (by omega)]; rfl
  rw [hp]
  refine Ai (fun _ => ?_) (fun he => absurd rfl he)
  refine call_ret (rtake9_calls (x.out w 1 rfl).1 (by simp)) ?_
  rintro _ h3 ⟨lv2, _, o3⟩
  have w := w.own 1 rfl o3
  obtain ⟨b, o, rfl⟩ := (hsl h0 (Chg.refl _)).addr hz
  obtain ⟨s, hs⟩ : ∃ s, t.list[0]? = some s := ⟨_, List.getElem?_eq_getElem (by omega)⟩
  have hcs := (hsl _ (x.base w)).cells encS_len hs
  refine sl_ix (hsl _ (x.base w)) (0) (by omega) hs ?_
  refine w.callv rText9_calls fun h4 w => ?_
  refine w.st1 0 rfl rfl rfl rfl fun h5 w => ?_
  exact Reply9.fin x w 0 1 rfl rfl (Jd9.ok (by show Except.ok (textR (t.list[0]?.getD noText), [unheadE key]) = _; rw [hs]; rfl))
theorem rrpop_calls (x : As h0 h (aT xb t pv lw rv key kv now av lv [] noText)) (g : RG9 h0 kv k av A key t pv lw rv) : CallsH Tryz.prog 61 [ptr xb, .string ⟨#[82, 80, 79, 80]⟩] h
  (Ret (Reply9 h0 h xb t pv lw rv key kv now av lv (match placeN t.list.length (-1) with
   |some i => .ok (textR (t.list[i]?.getD noText), [untailE key])
   |none => .ok (nilR, [])))) := by
 refine f61_calls (by simp) ?_
 intro b4 h1 g1
 have w := x.st.new g1
 have hsl := fun h2 hc => (th_lists (g.th h2 hc)).2.1
 obtain ⟨la, lc, rfl, _⟩ := (hsl h0 (Chg.refl _)).form
 have t9 := g.t9
 have ln : t.list.length ≤ 2000 := t9.ls
 refine w.ldr9 1 rfl rfl ?_
 refine Ai (fun he => absurd he (by decide)) (fun _ => ?_)
 refine Ai (fun he => absurd he (by decide)) (fun _ => ?_)
 refine Ai (fun he => absurd he (by decide)) (fun _ => ?_)
 refine Ai (fun _ => ?_) (fun he => absurd rfl he)
 refine Ai rfl (Ai (fun hz => ?_) (fun hz => ?_))
 ·have hz : t.list.length = 0 := by omega
  refine w.st1 0 rfl rfl rfl rfl fun h3 w => ?_
  exact Reply9.fin (a := 0) (m := 0) (s := noText) x w 0 1 rfl rfl (Jd9.ok (by rw [hz]; rfl))
 ·have hz : 0 < t.list.length := by omega
  have hp : placeN t.list.length (-1) = some (t.list.length - 1) := by unfold placeN; rw [if_pos (by omega), if_pos (by omega)]; congr 1; omega
  rw [hp]
  refine Ai (fun he => absurd he (by decide)) (fun _ => ?_)
  refine call_ret (rtake9_calls (x.out w 1 rfl).1 (by simp)) ?_
  rintro _ h3 ⟨lv2, _, o3⟩
  have w := w.own 1 rfl o3
  obtain ⟨b, o, rfl⟩ := (hsl h0 (Chg.refl _)).addr hz
  refine Ai rfl (fun z hz' => ?_)
  have hz' : z = (t.list.length : Int) - 1 := hz'.trans (wrap_in (by omega) (by omega))
  subst hz'
  obtain ⟨s, hs⟩ : ∃ s, t.list[t.list.length - 1]? = some s := ⟨_, List.getElem?_eq_getElem (by omega)⟩
  have hcs := (hsl _ (x.base w)).cells encS_len hs
  refine sl_ix (hsl _ (x.base w)) (t.list.length - 1) (by omega) hs ?_
  refine w.callv rText9_calls fun h4 w => ?_
  refine w.st1 0 rfl rfl rfl rfl fun h5 w => ?_
  exact Reply9.fin x w 0 1 rfl rfl (Jd9.ok (by show Except.ok (textR (t.list[t.list.length - 1]?.getD noText), [untailE key]) = _; rw [hs]; rfl))
theorem rlindex_calls (hn : numOf s = some n) (x : As h0 h (aT xb t pv lw rv key kv now av lv [] noText)) (g : RG9 h0 kv k av [key, s] key t pv lw rv) : CallsH Tryz.prog 61 [ptr xb, .string ⟨#[76, 73, 78, 68, 69, 88]⟩] h
  (Ret (Reply9 h0 h xb t pv lw rv key kv now av lv (match placeN t.list.length n with
   |some i => .ok (textR (t.list[i]?.getD noText), [])
   |none => .ok (nilR, [])))) := by
 refine f61_calls (by simp) ?_
 intro b4 h1 g1
 have w := x.st.new g1
 have hsl := fun h2 hc => (th_lists (g.th h2 hc)).2.1
 obtain ⟨la, lc, rfl, _⟩ := (hsl h0 (Chg.refl _)).form
 have t9 := g.t9
 have ln : t.list.length ≤ 2000 := t9.ls
 refine w.ldr9 1 rfl rfl ?_
 refine Ai (fun he => absurd he (by decide)) (fun _ => ?_)
 refine Ai (fun he => absurd he (by decide)) (fun _ => ?_)
 refine Ai (fun he => absurd he (by decide)) (fun _ => ?_)
 refine Ai (fun he => absurd he (by decide)) (fun _ => ?_)
 refine Ai (fun he => absurd he (by decide)) (fun _ => ?_)
 obtain ⟨b, o, cc, rfl⟩ := g.c.argF (by simp)
 refine w.ldr9 1 rfl rfl ?_
 refine g.c.ix (x.base w) 1 rfl rfl ?_
 have zs := g.az s (by simp)
 refine callp (rnum_some (by omega) hn) ?_
 have n64 := numOf_in hn
 refine Ai (fun he => absurd he (by decide)) (fun _ => ?_)
 cases hp : placeN t.list.length n with
 |none =>
  refine callp (rplace_none (by omega) n64 hp) ?_
  refine Ai (fun _ => ?_) (fun he => absurd rfl he)
  refine w.st1 0 rfl rfl rfl rfl fun h3 w => ?_
  exact Reply9.fin (a := 0) (m := 0) (s := noText) x w 0 1 rfl rfl (Jd9.ok rfl)
 |some i =>
  have hi := placeN_lt hp
  refine callp (rplace_some (by omega) n64 hp) ?_
  refine Ai (fun _ => ?_) (fun he => absurd rfl he)
  obtain ⟨b, o, rfl⟩ := (hsl h0 (Chg.refl _)).addr (by omega)
  obtain ⟨s', hs⟩ : ∃ s, t.list[i]? = some s := ⟨_, List.getElem?_eq_getElem hi⟩
  refine sl_ix (hsl _ (x.base w)) i rfl hs ?_
  refine w.callv rText9_calls fun h4 w => ?_
  refine w.st1 0 rfl rfl rfl rfl fun h5 w => ?_
  exact Reply9.fin x w 0 1 rfl rfl (Jd9.ok (by show Except.ok (textR (t.list[i]?.getD noText), []) = _; rw [hs]; rfl))
theorem rlset_calls (hn : numOf s = some n) (x : As h0 h (aT xb t pv lw rv key kv now av lv [] noText)) (g : RG9 h0 kv k av [key, s, u] key t pv lw rv) : CallsH Tryz.prog 61 [ptr xb, .string ⟨#[76, 83, 69, 84]⟩] h
  (Ret (Reply9 h0 h xb t pv lw rv key kv now av lv (match placeN t.list.length n with
   |some i => .ok (okR, dropsS (k.map RX.pr) key now ++ [atE key i u])
   |none => .error wRange))) := by
 refine f61_calls (by simp) ?_
 intro b4 h1 g1
 have w := x.st.new g1
 have hsl := fun h2 hc => (th_lists (g.th h2 hc)).2.1
 obtain ⟨la, lc, rfl, _⟩ := (hsl h0 (Chg.refl _)).form
 have t9 := g.t9
 have ln : t.list.length ≤ 2000 := t9.ls
 refine w.ldr9 1 rfl rfl ?_
 refine Ai (fun he => absurd he (by decide)) (fun _ => ?_)
 refine Ai (fun he => absurd he (by decide)) (fun _ => ?_)
 refine Ai (fun he => absurd he (by decide)) (fun _ => ?_)
 refine Ai (fun he => absurd he (by decide)) (fun _ => ?_)
 refine Ai (fun he => absurd he (by decide)) (fun _ => ?_)
 obtain ⟨b, o, cc, rfl⟩ := g.c.argF (by simp)
 refine w.ldr9 1 rfl rfl ?_
 refine g.c.ix (x.base w) 1 rfl rfl ?_
 have zs := g.az s (by simp)
 refine callp (rnum_some (by omega) hn) ?_
 have n64 := numOf_in hn
 refine Ai (fun he => absurd he (by decide)) (fun _ => ?_)
 cases hp : placeN t.list.length n with
 |none =>
  refine callp (rplace_none (by omega) n64 hp) ?_
  refine Ai (fun he => absurd he (by decide)) (fun _ => ?_)
  refine w.stw9 1 rfl fun h2 w => ?_
  refine w.st1 0 rfl rfl rfl rfl fun h3 w => ?_
  exact Reply9.fin (a := 0) (m := 0) (s := noText) x w 0 1 rfl rfl (Jd9.no (why := wRange) (by decide) rfl)
 |some i =>
  refine callp (rplace_some (by omega) n64 hp) ?_
  refine Ai (fun he => absurd he (by decide)) (fun _ => ?_)
  have zu := g.az u (by simp)
  have zk := g.ks
  refine w.ldr9 1 rfl rfl ?_
  refine g.c.ix (x.base w) 2 rfl rfl ?_
  refine call_ret (rput9_calls g.c (x.out w 1 rfl).1 (by simp) (by omega) (by omega) (by decide) (by omega)) ?_
  rintro _ h8 ⟨rfl, lv2, _, o8⟩
  have w := w.own 1 rfl o8
  refine w.callv rStatus9_calls fun h9 w => ?_
  refine w.st1 0 rfl rfl rfl rfl fun h10 w => ?_
  exact Reply9.fin x w 0 1 rfl rfl (Jd9.ok rfl)
theorem rlrange_calls (hn : numOf s = some n) (hm : numOf u = some m) (x : As h0 h (aT xb t pv lw rv key kv now av lv [] noText)) (g : RG9 h0 kv k av [key, s, u] key t pv lw rv) : CallsH Tryz.prog 61 [ptr xb, .string ⟨#[76, 82, 65, 78, 71, 69]⟩] h
  (Ret (Reply9 h0 h xb t pv lw rv key kv now av lv (.ok (listR (spanL t.list n m), [])))) := by
 refine f61_calls (by simp) ?_
 intro b4 h1 g1
 have w := x.st.new g1
 have hsl := fun h2 hc => (th_lists (g.th h2 hc)).2.1
 obtain ⟨la, lc, rfl, _⟩ := (hsl h0 (Chg.refl _)).form
 have t9 := g.t9
 have ln : t.list.length ≤ 2000 := t9.ls
 refine w.ldr9 1 rfl rfl ?_
 refine Ai (fun he => absurd he (by decide)) (fun _ => ?_)
 refine Ai (fun he => absurd he (by decide)) (fun _ => ?_)
 refine Ai (fun he => absurd he (by decide)) (fun _ => ?_)
 refine Ai (fun he => absurd he (by decide)) (fun _ => ?_)
 refine Ai (fun he => absurd he (by decide)) (fun _ => ?_)
 obtain ⟨b, o, cc, rfl⟩ := g.c.argF (by simp)
 refine w.ldr9 1 rfl rfl ?_
 refine g.c.ix (x.base w) 1 rfl rfl ?_
 have zs := g.az s (by simp)
 refine callp (rnum_some (by omega) hn) ?_
 have n64 := numOf_in hn
 refine Ai (fun _ => ?_) (fun he => absurd rfl he)
 refine w.ldr9 1 rfl rfl ?_
 refine g.c.ix (x.base w) 2 rfl rfl ?_
 have zu := g.az u (by simp)
 refine callp (rnum_some (by omega) hm) ?_
 have m64 := numOf_in hm
 refine callp (rspan_calls (by omega) n64 m64) ?_
 have hsp := spanN_le t.list.length n m
 unfold spanL
 generalize (spanN t.list.length n m).1 = p at *
 generalize (spanN t.list.length n m).2 = q at *
 refine Ai (by omega) (Ai (by omega) (Ai (by omega) ?_))
 refine sl_slc (lo := p) (hi := q) encS_len (hsl _ (x.base w)) hsp.1 hsp.2 fun v1 hv1 => ?_
 refine call_ret (rtexts_calls (hv1 _ (hsl _ (x.base w))) (by simp only [List.length_take, List.length_drop]; omega)) ?_
 rintro _ h5 ⟨⟨ra, rn, rc, rfl, sl, fr⟩, c5⟩
 have w := w.ext c5
 have zz := w.chg.size
 have i4 := g1.id
 have z1 := g1.size
 refine w.st2 0 rfl rfl rfl rfl fun h6 w k6 => ?_
 exact ⟨_, rfl, cells_blk (w.get 0 rfl), listR (((t.list.drop p).take (q - p))), lv, [], noText, ⟨ra, rn, rc, rfl, sl.chg k6 (fun b hb => by have := fr b hb; simp; omega), fun b hb => by have := fr b hb; omega⟩, ⟨t, _, _, _, key, x.out w 1 rfl⟩, Jd9.ok rfl⟩
def accR9 (S : Space) (key : ByteArray) (now : Int) (e : ByteArray → Eff) (l : List ByteArray) (j : Nat) : List Eff := if j = 0 then [] else dropsS S key now ++ (l.take j).map e
theorem accR9_next {S : Space} {key : ByteArray} {now : Int} {e : ByteArray → Eff} {l : List ByteArray} {j : Nat} (hj : j < l.length) : preL S key now (accR9 S key now e l j) ++ [e l[j]] = accR9 S key now e l (j + 1) := by
 unfold accR9 preL
 rw [if_neg (by omega : ¬ j + 1 = 0), List.take_succ_eq_append_getElem hj, List.map_append]
 cases j with
 |zero => simp
 |succ j =>
  have h1 : ¬ (j + 1 = 0) := by omega
  have h2 : ¬ ((dropsS S key now ++ (l.take (j + 1)).map e).length = 0) := by rw [List.length_append, List.length_map, List.length_take]; omega
  rw [if_neg h1, if_neg h2, List.append_assoc]
  rfl
theorem accR9_len {S : Space} {key : ByteArray} {now : Int} {e : ByteArray → Eff} {l : List ByteArray} {j : Nat} (hl : l.length ≤ 20) : (accR9 S key now e l j).length ≤ 100 := by
 unfold accR9
 have := drops_len S key now
 split
 ·simp
 ·simp only [List.length_append, List.length_map, List.length_take]; omega
set_option maxHeartbeats 1000000 in
theorem rlpush_calls {l : List ByteArray} (hl : 0 < l.length) (x : As h0 h (aT xb t pv lw rv key kv now av lv [] noText)) (g : RG9 h0 kv k av (key :: l) key t pv lw rv) : CallsH Tryz.prog 61 [ptr xb, .string ⟨#[76, 80, 85, 83, 72]⟩] h
  (Ret (Reply9 h0 h xb t pv lw rv key kv now av lv (.ok (numR (t.list.length + l.length), dropsS (k.map RX.pr) key now ++ l.map (headE key))))) := by
 refine f61_calls (by simp) ?_
 intro b4 h1 g1
 have w := x.st.new g1
 have hsl := fun h2 hc => (th_lists (g.th h2 hc)).2.1
 obtain ⟨la, lc, rfl, _⟩ := (hsl h0 (Chg.refl _)).form
 have t9 := g.t9
 have ln : t.list.length ≤ 2000 := t9.ls
 refine w.ldr9 1 rfl rfl ?_
 have zk := g.ks
 have zal : (key :: l).length ≤ 20 := g.al
 simp only [List.length_cons] at zal
 obtain ⟨b, o, cc, rfl⟩ := g.c.argF (by simp)
 refine Ai (fun _ => ?_) (fun he => absurd rfl he)
 refine Ai (fun he => absurd he (by decide)) (fun _ => ?_)
 refine loop_intro (fun q : Nat × Value => [(0, ptr xb), (4, ptr b4), (5, .slice la t.list.length lc), (6, .int .i64 7), (7, .int .i64 ((q.1 + 1 : Nat) : Int))])
  (fun q h' => q.1 ≤ l.length ∧ St (xb :: vblk lv) h h' [.b b4 [.int .i64 0, .int .i64 0, .string ⟨#[]⟩, .slice none 0 0], aT xb t pv (.slice la t.list.length lc) rv key kv now (.slice (some ⟨b, o, none⟩) (key :: l).length cc) q.2 (accR9 (k.map RX.pr) key now (headE key) l q.1) noText])
  (fun q => l.length - q.1) (0, lv) ⟨rfl, rfl, rfl, rfl, rfl, trivial⟩ ⟨Nat.zero_le _, w⟩ ?_
 rintro ⟨q, lq⟩ h4 ⟨hq, w⟩
 have hq : q ≤ l.length := hq
 have la2 := accR9_len (S := k.map RX.pr) (key := key) (now := now) (e := headE key) (l := l) (j := q) (by omega)
 refine w.ldr9 1 rfl rfl ?_
 refine Ai rfl (Ai (fun hlt => ?_) (fun hge => ?_))
 ·have hlt : q < l.length := by simp only [List.length_cons] at hlt; omega
  refine w.ldr9 1 rfl rfl ?_
  refine g.c.ix (x.base w) (q + 1) rfl (s := l[q]) (by simp [hlt]) ?_
  refine Ai rfl (fun z hz => ?_)
  have hz : z = (t.list.length : Int) + ((q + 1 : Nat) : Int) := hz.trans (wrap_in (by omega) (by omega))
  subst hz
  have zl := g.az l[q] (List.mem_cons_of_mem _ (List.getElem_mem hlt))
  refine call_ret (rput9_calls g.c (x.out w 1 rfl).1 (Nat.le_trans la2 (by omega)) (by omega) (by omega) (by decide) (by omega)) ?_
  rintro _ h5 ⟨rfl, lv2, _, o5⟩
  have w := w.own 1 rfl o5
  rw [show preL (k.map RX.pr) key now (accR9 (k.map RX.pr) key now (headE key) l q) ++ [⟨7, key, ⟨#[]⟩, l[q], 0⟩] = accR9 (k.map RX.pr) key now (headE key) l (q + 1) from accR9_next (e := headE key) hlt] at w
  refine Ai rfl (fun z hz => ?_)
  have hz := add_in hz (by omega) (by omega)
  subst hz
  exact Ai rfl (Ei (q + 1, _) (Ai ⟨rfl, rfl, rfl, rfl, rfl, trivial⟩ (Ai ⟨hlt, w⟩ (by simp only; omega))))
 ·have hkl : q = l.length := by simp only [List.length_cons] at hge; omega
  subst hkl
  refine w.ldr9 1 rfl rfl ?_
  refine Ai rfl (fun z hz => ?_)
  have hz : z = (t.list.length : Int) + ((key :: l).length : Int) := hz.trans (wrap_in (by simp only [List.length_cons]; omega) (by simp only [List.length_cons]; omega))
  subst hz
  refine Ai rfl (fun z hz => ?_)
  have hz : z = (t.list.length : Int) + (l.length : Int) := hz.trans ((wrap_in (by simp only [List.length_cons]; omega) (by simp only [List.length_cons]; omega)).trans (by simp only [List.length_cons]; omega))
  subst hz
  refine w.callv rInt9_calls fun h6 w => ?_
  refine w.st1 0 rfl rfl rfl rfl fun h7 w => ?_
  exact Reply9.fin x w 0 1 rfl rfl (Jd9.ok (by unfold accR9; rw [if_neg (by omega), List.take_length]; rfl))
set_option maxHeartbeats 1000000 in
theorem rrpush_calls {l : List ByteArray} (hl : 0 < l.length) (x : As h0 h (aT xb t pv lw rv key kv now av lv [] noText)) (g : RG9 h0 kv k av (key :: l) key t pv lw rv) : CallsH Tryz.prog 61 [ptr xb, .string ⟨#[82, 80, 85, 83, 72]⟩] h
  (Ret (Reply9 h0 h xb t pv lw rv key kv now av lv (.ok (numR (t.list.length + l.length), dropsS (k.map RX.pr) key now ++ l.map (tailE key))))) := by
 refine f61_calls (by simp) ?_
 intro b4 h1 g1
 have w := x.st.new g1
 have hsl := fun h2 hc => (th_lists (g.th h2 hc)).2.1
 obtain ⟨la, lc, rfl, _⟩ := (hsl h0 (Chg.refl _)).form
 have t9 := g.t9
 have ln : t.list.length ≤ 2000 := t9.ls
 refine w.ldr9 1 rfl rfl ?_
 have zk := g.ks
 have zal : (key :: l).length ≤ 20 := g.al
 simp only [List.length_cons] at zal
 obtain ⟨b, o, cc, rfl⟩ := g.c.argF (by simp)
 refine Ai (fun he => absurd he (by decide)) (fun _ => ?_)
 refine Ai (fun _ => ?_) (fun he => absurd rfl he)
 refine Ai (fun _ => ?_) (fun he => absurd rfl he)
 refine loop_intro (fun q : Nat × Value => [(0, ptr xb), (4, ptr b4), (5, .slice la t.list.length lc), (6, .int .i64 8), (7, .int .i64 ((q.1 + 1 : Nat) : Int))])
  (fun q h' => q.1 ≤ l.length ∧ St (xb :: vblk lv) h h' [.b b4 [.int .i64 0, .int .i64 0, .string ⟨#[]⟩, .slice none 0 0], aT xb t pv (.slice la t.list.length lc) rv key kv now (.slice (some ⟨b, o, none⟩) (key :: l).length cc) q.2 (accR9 (k.map RX.pr) key now (tailE key) l q.1) noText])
  (fun q => l.length - q.1) (0, lv) ⟨rfl, rfl, rfl, rfl, rfl, trivial⟩ ⟨Nat.zero_le _, w⟩ ?_
 rintro ⟨q, lq⟩ h4 ⟨hq, w⟩
 have hq : q ≤ l.length := hq
 have la2 := accR9_len (S := k.map RX.pr) (key := key) (now := now) (e := tailE key) (l := l) (j := q) (by omega)
 refine w.ldr9 1 rfl rfl ?_
 refine Ai rfl (Ai (fun hlt => ?_) (fun hge => ?_))
 ·have hlt : q < l.length := by simp only [List.length_cons] at hlt; omega
  refine w.ldr9 1 rfl rfl ?_
  refine g.c.ix (x.base w) (q + 1) rfl (s := l[q]) (by simp [hlt]) ?_
  refine Ai rfl (fun z hz => ?_)
  have hz : z = (t.list.length : Int) + ((q + 1 : Nat) : Int) := hz.trans (wrap_in (by omega) (by omega))
  subst hz
  have zl := g.az l[q] (List.mem_cons_of_mem _ (List.getElem_mem hlt))
  refine call_ret (rput9_calls g.c (x.out w 1 rfl).1 (Nat.le_trans la2 (by omega)) (by omega) (by omega) (by decide) (by omega)) ?_
  rintro _ h5 ⟨rfl, lv2, _, o5⟩
  have w := w.own 1 rfl o5
  rw [show preL (k.map RX.pr) key now (accR9 (k.map RX.pr) key now (tailE key) l q) ++ [⟨8, key, ⟨#[]⟩, l[q], 0⟩] = accR9 (k.map RX.pr) key now (tailE key) l (q + 1) from accR9_next (e := tailE key) hlt] at w
  refine Ai rfl (fun z hz => ?_)
  have hz := add_in hz (by omega) (by omega)
  subst hz
  exact Ai rfl (Ei (q + 1, _) (Ai ⟨rfl, rfl, rfl, rfl, rfl, trivial⟩ (Ai ⟨hlt, w⟩ (by simp only; omega))))
 ·have hkl : q = l.length := by simp only [List.length_cons] at hge; omega
  subst hkl
  refine w.ldr9 1 rfl rfl ?_
  refine Ai rfl (fun z hz => ?_)
  have hz : z = (t.list.length : Int) + ((key :: l).length : Int) := hz.trans (wrap_in (by simp only [List.length_cons]; omega) (by simp only [List.length_cons]; omega))
  subst hz
  refine Ai rfl (fun z hz => ?_)
  have hz : z = (t.list.length : Int) + (l.length : Int) := hz.trans ((wrap_in (by simp only [List.length_cons]; omega) (by simp only [List.length_cons]; omega)).trans (by simp only [List.length_cons]; omega))
  subst hz
  refine w.callv rInt9_calls fun h6 w => ?_
  refine w.st1 0 rfl rfl rfl rfl fun h7 w => ?_
  exact Reply9.fin x w 0 1 rfl rfl (Jd9.ok (by unfold accR9; rw [if_neg (by omega), List.take_length]; rfl))
end
end Go.Proofs.YtjnijlnmbjjgpaaGreatDoor
namespace Go.Proofs.YtjnijlnmbjjgpaaGreatDoor
open Go Go.Sx C
theorem lword_calls {h : Heap} {s : ByteArray} (hs : s.size < 4611686018427387904) : CallsH Tryz.prog 39 [.string s] h (Ret fun r h' => r = .string (up s) ∧ Chg [] h h') := by
 obtain ⟨⟨bs⟩⟩ := s
 have hs : bs.length < 4611686018427387904 := hs
 refine f39_calls (by simp) ?_
 intro c b h1 hc g
 have hc : bs.length ≤ c := hc
 obtain ⟨tail, ht⟩ : ∃ tail, tail = List.replicate (c - bs.length) (Value.int .u8 0) := ⟨_, rfl⟩
 have gb : BlkW h1 b (cellB bs ++ tail) := by rw [ht]; exact g.blk
 refine loop_intro (fun q : Nat => [(3, .slice (some ⟨b, 0, none⟩) bs.length c), (8, .slice (some ⟨b, 0, none⟩) bs.length c), (9, .int .i64 bs.length), (10, .int .i64 q)]) (fun q h' => q ≤ bs.length ∧ BlkW h' b (cellB (upTo bs q) ++ tail) ∧ h'.size = h1.size ∧ ∀ k, k ≠ b → h'[k]? = h1[k]?) (fun q => bs.length - q) 0 ⟨rfl, rfl, rfl, rfl, trivial⟩ ⟨Nat.zero_le _, by rw [upTo_zero]; exact gb, rfl, fun _ _ => rfl⟩ ?_
 rintro q h2 ⟨hq, hb, hsz, hold⟩
 have next : ∀ {h3 : Heap}, q < bs.length → BlkW h3 b (cellB (upTo bs (q + 1)) ++ tail) → h3.size = h1.size → (∀ k, k ≠ b → h3[k]? = h1[k]?) → q + 1 ≤ bs.length ∧ BlkW h3 b (cellB (upTo bs (q + 1)) ++ tail) ∧ h3.size = h1.size ∧ ∀ k, k ≠ b → h3[k]? = h1[k]? := fun a b c d => ⟨a, b, c, d⟩
 refine Ai rfl (Ai (fun hlt => ?_) (fun hge => ?_))
 ·have hlt : q < bs.length := by omega
  have cq := cell_q hb hlt
  refine Ai (by omega) (Ai (by omega) (Ei _ (Ai cq (Ai rfl (Ai (fun h97 => ?_) (fun hn => ?_))))))
  ·refine Ai rfl (Ai (fun h122 => ?_) (fun hn => ?_))
   ·refine Ai rfl (fun z hz => Ai rfl (fun z1 hz1 => ?_))
    have hz : z = (bs[q].toNat : Int) - 97 := by rw [hz]; exact wrap8 (by omega) (by omega)
    have hz1 : z1 = (upB bs[q]).toNat := by
     rw [upB_lo h97 h122, hz1, hz]
     have := wrap8 (x := (bs[q].toNat : Int) - 97 + 65) (by omega) (by omega)
     exact this.trans (by omega)
    refine Ai (by omega) (Ai (by omega) (Ei _ (Ai hb (Ai ?_ (Ai rfl (Ai (Go.Sx.ones1 rfl) fun h3 p => ?_))))))
    ·show 0 + q * 1 + 1 ≤ _
     rw [List.length_append, cellB_len, upTo_len]; omega
    ·refine Ai rfl (fun z2 hz2 => ?_)
     have hz2 := add_in hz2 (by omega) (by omega)
     subst hz2
     exact Ai rfl (Ei (q + 1) (Ai ⟨rfl, rfl, rfl, rfl, trivial⟩ (Ai (next hlt (put_q hlt hz1 p) (p.size.trans hsz) fun k hk => (p.old k hk).trans (hold k hk)) (by omega))))
   ·refine Ai rfl (fun z2 hz2 => ?_)
    have hz2 := add_in hz2 (by omega) (by omega)
    subst hz2
    exact Ai rfl (Ei (q + 1) (Ai ⟨rfl, rfl, rfl, rfl, trivial⟩ (Ai (next hlt (by rw [same_q hlt (upB_not fun hh => hn hh.2)]; exact hb) hsz hold) (by omega))))
  ·refine Ai rfl (fun z2 hz2 => ?_)
   have hz2 := add_in hz2 (by omega) (by omega)
   subst hz2
   exact Ai rfl (Ei (q + 1) (Ai ⟨rfl, rfl, rfl, rfl, trivial⟩ (Ai (next hlt (by rw [same_q hlt (upB_not fun hh => hn hh.1)]; exact hb) hsz hold) (by omega))))
 ·have hkl : q = bs.length := by omega
  subst hkl
  rw [upTo_all] at hb
  refine Ei (bs.map upB) (Ai (by simp) (Ai (cells_pre hb) (Ai rfl ?_)))
  refine ⟨by rw [hsz, g.size]; omega, fun k hk _ => ?_⟩
  have := g.id
  rw [hold k (by omega), g.old k hk]
def cmd9 : List (List UInt8 × Nat) := [
 ([72, 83, 69, 84], 81),
 ([72, 71, 69, 84], 82),
 ([72, 68, 69, 76], 83),
 ([72, 76, 69, 78], 84),
 ([72, 71, 69, 84, 65, 76, 76], 85),
 ([72, 73, 78, 67, 82, 66, 89], 86),
 ([76, 80, 85, 83, 72], 87),
 ([82, 80, 85, 83, 72], 88),
 ([76, 80, 79, 80], 89),
 ([82, 80, 79, 80], 90),
 ([76, 76, 69, 78], 91),
 ([76, 73, 78, 68, 69, 88], 92),
 ([76, 82, 65, 78, 71, 69], 93),
 ([76, 83, 69, 84], 94),
 ([83, 65, 68, 68], 95),
 ([83, 82, 69, 77], 96),
 ([83, 73, 83, 77, 69, 77, 66, 69, 82], 97),
 ([83, 67, 65, 82, 68], 98),
 ([83, 77, 69, 77, 66, 69, 82, 83], 99),
 ([83, 73, 78, 84, 69, 82], 100),
 ([90, 65, 68, 68], 101),
 ([90, 82, 69, 77], 102),
 ([90, 83, 67, 79, 82, 69], 103),
 ([90, 73, 78, 67, 82, 66, 89], 104),
 ([90, 67, 65, 82, 68], 105),
 ([90, 82, 65, 78, 75], 106),
 ([90, 82, 65, 78, 71, 69], 107),
 ([90, 82, 65, 78, 71, 69, 66, 89, 83, 67, 79, 82, 69], 108)]
def look9 : List (List UInt8 × Nat) → ByteArray → Option Nat
 |[], _ => none
 |(n, g) :: l, w => if w = ofB n then some g else look9 l w
def Found9 (W : ByteArray) (ms : List MapEntry) : Option Nat → Prop
 |some g => ∃ j, mfind (.string W) ms 0 = some (j, .func (.func g) #[] #[])
 |none => mfind (.string W) ms 0 = none
def Cm9 : List MapEntry → List (List UInt8 × Nat) → Prop
 |[], [] => True
 |e :: es, (n, g) :: ns => e.key = .string (ofB n) ∧ e.val = .func (.func g) #[] #[] ∧ Cm9 es ns
 |_, _ => False
theorem Cm9.snoc : ∀ {es : List MapEntry} {ns : List (List UInt8 × Nat)} {n : List UInt8} {g c : Nat}, Cm9 es ns → Cm9 (es ++ [{ key := .string (ofB n), val := .func (.func g) #[] #[], born := c }]) (ns ++ [(n, g)])
 |[], [], _, _, _, _ => ⟨rfl, rfl, trivial⟩
 |_ :: _, (_, _) :: _, _, _, _, ⟨h1, h2, h3⟩ => ⟨h1, h2, Cm9.snoc h3⟩
 |[], _ :: _, _, _, _, h => h.elim
 |_ :: _, [], _, _, _, h => h.elim
theorem Cm9.keys : ∀ {es : List MapEntry} {ns : List (List UInt8 × Nat)}, Cm9 es ns → KeysF es (ns.map Prod.fst)
 |[], [], _ => rfl
 |e :: es, (n, g) :: ns, ⟨h1, _, h3⟩ => by
  have := Cm9.keys h3
  unfold KeysF at this ⊢
  simp [h1, this]
 |[], _ :: _, h => h.elim
 |_ :: _, [], h => h.elim
theorem Cm9.found (W : ByteArray) : ∀ {es : List MapEntry} {ns : List (List UInt8 × Nat)} (i : Nat), Cm9 es ns → (match look9 ns W with | some g => ∃ j, mfind (.string W) es i = some (j, .func (.func g) #[] #[]) | none => mfind (.string W) es i = none)
 |[], [], _, _ => rfl
 |e :: es, (n, g) :: ns, i, ⟨h1, h2, h3⟩ => by
  have ih := Cm9.found W (i + 1) h3
  unfold look9
  by_cases hw : W = ofB n
  ·rw [if_pos hw]
   refine ⟨i, ?_⟩
   unfold mfind
   rw [h1, hw, if_pos (sameBits_refl (k := .str) rfl), h2]
  ·rw [if_neg hw]
   have hn : ¬ (Instr.sameBits 10000 (.string W) e.key = true) := fun hs => by
    have := sameBits_eq (k := .str) (by rfl) (by rw [h1]; rfl) hs
    rw [h1] at this
    simp at this
    exact hw this
   cases hl : look9 ns W with
   |none =>
    rw [hl] at ih
    show mfind _ (e :: es) i = none
    unfold mfind
    rw [if_neg hn]; exact ih
   |some g2 =>
    rw [hl] at ih
    obtain ⟨j, h7⟩ := ih
    refine ⟨j, ?_⟩
    unfold mfind
    rw [if_neg hn]; exact h7
 |[], _ :: _, _, h => h.elim
 |_ :: _, [], _, h => h.elim
def mupO (p : List UInt8 × Nat) : SOper := ⟨none, none, .mup .str (.tmp 1) (.const (.string (ofB p.1))) (.func p.2)⟩
theorem mup_go {Qp : List PanicEntry → Heap → Prop} {K : Env → Heap → Prop} {h0 : Heap} {mb : Nat} {σ : Env} {rest : List SOper} (hσ : σ 1 = some (.map (some mb))) (k : ∀ h' es c, St [] h0 h' [.m mb es c] → Cm9 es cmd9 → sops Tryz.prog Qp K rest σ h') :
  ∀ (ns pre : List (List UInt8 × Nat)) {h : Heap} {es : List MapEntry} {c : Nat}, pre ++ ns = cmd9 → St [] h0 h [.m mb es c] → Cm9 es pre → ((pre ++ ns).map Prod.fst).Nodup → sops Tryz.prog Qp K (ns.map mupO ++ rest) σ h
 |[], pre, h, es, c, e, w, cm, _ => by
  simp only [List.append_nil] at e
  subst e
  exact k h es c w cm
 |(n, g) :: ns, pre, h, es, c, e, w, cm, hd => by
  have ky := cm.keys
  have hnot : n ∉ pre.map Prod.fst := by
   rw [List.map_append] at hd
   have := (List.nodup_append.1 hd).2.2
   intro hm
   exact this n hm n (by simp) rfl
  show sopr Tryz.prog σ h (mupO (n, g)) (sops Tryz.prog Qp K (ns.map mupO ++ rest)) Qp
  simp only [mupO, sopr, sop, ev, hσ]
  refine Ai rfl (Ei es (Ei c (Ai (w.get 0 rfl) (Ai ky.fits ?_))))
  rw [ky.miss hnot]
  intro h' p
  have w : St [] h0 h' [.m mb _ _] := w.mput 0 rfl p
  exact mup_go hσ k ns (pre ++ [(n, g)]) (by rw [List.append_assoc]; exact e) w cm.snoc (by rw [List.append_assoc]; exact hd)
theorem cmd9_nodup : (cmd9.map Prod.fst).Nodup := by decide +kernel
theorem r1_eq : f38r1 = ⟨some 1, none, .mkm⟩ :: ((cmd9.map mupO) ++ [⟨some 2, none, .mv (.tmp 1)⟩, ⟨some 0, none, .mv (.tmp 2)⟩]) := by kernel_rfl
theorem ops_go {P : Program} {l : List SOper} {c : SCode} {Q : Post} {σ : Env} {ds : List Deferred} {h : Heap} (hs : sops P (fun ch h' => thenQ (swp P c Q) Q (.panic ch) (hide l σ) ds h') (fun σ' h' => thenQ (swp P c Q) Q .normal σ' ds h') l σ h) : swp P (.seq (.ops l) c) Q σ ds h := hs
theorem cmds9_calls {h : Heap} : CallsH Tryz.prog 38 [] h (Ret fun r h' => Chg [] h h' ∧ ∃ mb es c, r = .map (some mb) ∧ MapB h' mb es c ∧ (∀ e ∈ es, fits .str e.key = true) ∧ ∀ W, Found9 W es (look9 cmd9 W)) := by
 refine f38_calls (by simp) ?_
 refine mv_go (v := .map none) rfl ?_
 refine ops_go ?_
 rw [r1_eq]
 intro mb h1 g1
 have w := (St.start h).newm g1
 refine mup_go rfl (fun h' es c w cm => ?_) cmd9 [] rfl w trivial cmd9_nodup
 refine ⟨w.chg, mb, es, c, rfl, w.get 0 rfl, cm.keys.fits, fun W => ?_⟩
 have := Cm9.found W 0 cm
 unfold Found9
 exact this
theorem do9_D : SoundD Tryz.prog 20 46 f20 [.cn 6 4, .c1 7, .t 8] := soundD_of (fl := true) mixed Tryz.func20 rfl (by kernel_rfl) (by kernel_rfl) (by kernel_rfl)
theorem dodef9_F : SoundF Tryz.prog 40 14 f40 [] := soundF_of (fl := true) mixed Tryz.func40 rfl (by kernel_rfl) (by kernel_rfl) (by kernel_rfl)
theorem dodef9_calm {h : Heap} {b6 b7 : Nat} : DefH Tryz.prog 40 [ptr b6, ptr b7] .returning h fun e u' h' => (∃ v, e = .returned v) ∧ u' = .returning ∧ h' = h := by
 refine dodef9_F (by simp) ?_
 exact ⟨rfl, ⟨_, rfl⟩, rfl, rfl⟩
theorem BFail9_calls {h : Heap} {s : ByteArray} : CallsH Tryz.prog 41 [.string s] h (Ret fun r h' => r = repV 2 0 s ∧ Chg [] h h') := by
 refine f41_calls (by simp) ?_
 intro b h1 g1
 refine Ei _ (Ai g1.blk (Ai (by decide) (Ai rfl (Ai (repV_ones 2 0 s) ?_))))
 intro h2 p2
 have g2 := g1.put p2
 exact ⟨_, rfl, cells_blk g2.blk, rfl, g2.chg⟩
theorem dodef9_stop {h : Heap} {b6 b7 : Nat} {why : ByteArray} {r4 : List Value} {lv : Value} (B6 : Blk h b6 r4) (hr : r4.length = 4) (B7 : Blk h b7 [lv]) (hne : b6 ≠ b7) :
  DefH Tryz.prog 40 [ptr b6, ptr b7] (.panicking (stop9 why)) h fun e u' h' => (∃ v, e = .returned v) ∧ u' = .panicking [{ v := .iface 92 (.agg #[.string why]), recovered := true }] ∧
   Blk h' b6 [.int .i64 2, .int .i64 0, .string why, .slice none 0 0] ∧ Blk h' b7 [.slice none 0 0] ∧ Chg [b6, b7] h h' := by
 refine dodef9_F (by simp) ?_
 have l6 := B6.lt
 have l7 := B7.lt
 refine Ai (fun _ => ?_) (fun hne => absurd rfl hne)
 intro b3 h1 g1
 refine Ei _ (Ai g1.blk (Ai (by decide) (Ai rfl (Ai (ones1 rfl) ?_))))
 intro h2 p2
 have g2 := g1.put p2
 have B3 : Blk h2 b3 [.string why] := p2.blk
 refine Ei _ (Ai (cell_blk B3 rfl) ?_)
 refine call_ret BFail9_calls ?_
 rintro _ h3 ⟨rfl, c3⟩
 have c03 := g2.chg.nil c3
 refine Ei _ (Ai (B6.chg c03 (by simp)) (Ai (by rw [hr]; decide) (Ai rfl (Ai (repV_ones 2 0 why) ?_))))
 intro h4 p4
 have B64 : Blk h4 b6 [.int .i64 2, .int .i64 0, .string why, .slice none 0 0] := by
  have h9 : Blk h4 b6 (splice r4 0 [.int .i64 2, .int .i64 0, .string why, .slice none 0 0]) := p4.blk
  rw [four hr rfl] at h9
  exact h9
 refine Ei _ (Ai ((B7.chg c03 (by simp)).chg p4.chg (by simp; omega)) (Ai (by simp) (Ai rfl (Ai (ones1 rfl) ?_))))
 intro h5 p5
 have B75 : Blk h5 b7 [.slice none 0 0] := p5.blk
 have c5 : Chg [b6, b7] h h5 := ((c03.mono (by simp)).trans p4.chg (fun _ hx => hx) (fun x hx _ => by simp at hx; simp [hx])).trans p5.chg (fun _ hx => hx) (fun x hx _ => by simp at hx; simp [hx])
 exact ⟨rfl, ⟨_, rfl⟩, rfl, B64.chg p5.chg (by simp; omega), B75, c5⟩
theorem do9_calls {h : Heap} {kb sb mb c g : Nat} {now : Int} {av : Value} {w : ByteArray} {A : List ByteArray} {m : List KI} {res : Res} (kr : KR h kb sb mb c m)
  (hA : SL encS h av (w :: A)) (_hl : (w :: A).length < 4611686018427387904) (hz : w.size < 4611686018427387904) (hno : look9 cmd9 (up w) = some g)
  (hf : ∀ h1 ab av', (∀ h', Chg [] h h' → SL encS h' av' A) → As h h1 (c0 ab kb now av') → CallsH Tryz.prog g [ptr ab] h1 (Cmd9 h h1 ab kb now av' res)) :
  CallsH Tryz.prog 20 [ptr kb, .int .i64 now, av] h (Ret (DoR h res)) := by
 obtain ⟨a, cc, rfl, hcc⟩ := hA.form
 obtain ⟨bb, oo, rfl⟩ := hA.addr (by simp)
 refine do9_D (by simp) ?_
 intro b6 h1 g1
 have w1 := (St.start h).new g1
 intro b7 h2 g2
 have w2 := w1.new g2
 have c2 : Chg [] h h2 := w2.chg
 refine Ai rfl (Ai (fun h0 => absurd h0 (by simp; omega)) (fun _ => ?_))
 refine callp (same_nil (kr.ext c2).ks) ?_
 have hA2 := hA.ext c2
 have hc0 := hA2.cells encS_len (i := 0) (x := w) (by simp)
 refine Ai (by decide) (Ai (by simp) (Ei _ (Ai (by simpa using hc0 0 _ rfl) ?_)))
 refine callq_ret cmds9_calls ?_
 rintro _ h3 ⟨c3, b, es, c', rfl, hm, hfit, hfd⟩
 refine Ai c3.ext ?_
 refine callq_ret (lword_calls hz) ?_
 rintro _ h4 ⟨rfl, c4⟩
 refine Ai c4.ext ?_
 refine Ai rfl (Ei es (Ei c' (Ai (hm.chg c4 (by simp)) (Ai hfit ?_))))
 have hfind := hfd (up w)
 rw [hno] at hfind
 obtain ⟨i, hfind⟩ := hfind
 rw [hfind]
 have w4 := (w2.ext c3).ext c4
 refine Ai (by decide) (Ai (by simp only [List.length_cons]; omega) (Ai (by omega) ?_))
 refine sl_slc (lo := 1) (hi := (w :: A).length) encS_len (hA.ext w4.chg) (by simp) (Nat.le_refl _) fun v1 hv1 => ?_
 have e1 : ((w :: A).drop 1).take ((w :: A).length - 1) = A := by simp
 rw [e1] at hv1
 obtain ⟨a1, cc1, rfl, hcc1⟩ := (hv1 h hA).form
 intro ab h5 g5
 have w5 : St [] h h5 [.b ab (cellsC zeroT nilV nilV nilV false kb now noText (.slice a1 A.length cc1) nilV), .b b7 [.slice none 0 0], .b b6 [.int .i64 0, .int .i64 0, .string ⟨#[]⟩, .slice none 0 0]] := w4.new g5
 have z4 := w4.chg.size
 have i5 := g5.id
 have w6 : St [] h h5 [c0 ab kb now (.slice a1 A.length cc1), .b b7 [.slice none 0 0], .b b6 [.int .i64 0, .int .i64 0, .string ⟨#[]⟩, .slice none 0 0]] :=
  w5.set 0 rfl (Chg.refl _) (by simp) ⟨w5.get 0 rfl, OL.nil, ⟨_, _, _, rfl, SL.nil, SL.nil, SL.nil⟩, by simp [bl3, vblk, ablk], by simp [vblk, ablk], by simp [bl3, vblk, ablk], by simp [vblk, ablk]⟩ (fun b hb => by
   simp [cE, En.fp, bl3, vblk, ablk] at hb
   exact .inl (by simp [En.fp, hb]))
 refine call_out9 (hf h5 ab _ (fun h' hc => hv1 h' (hA.ext hc)) (w6.as 0 rfl)) ?_ ?_
 ·rintro v h6 ⟨q, E, key, t, is, pv, lw, rv, lv, he, ⟨ra, rn, rc, rfl, sl, fr⟩, _, o6⟩
  subst he
  have w := w6.own 0 rfl o6
  obtain ⟨la, lc, rfl⟩ := w.cform 0 rfl
  have hi6 := g1.id
  have hi7 := g2.id
  have z1 := g1.size
  have z2 := g2.size
  have z3 := (c3.nil c4).size
  have z5 := g5.size
  have keep : ∀ {h7 h8 : Heap} {k : Nat}, k < h5.size → SL encQ h7 (.slice ra rn rc) q.l → Chg [k] h7 h8 → SL encQ h8 (.slice ra rn rc) q.l := fun hk sl hc => sl.chg hc fun b hb => by have := fr b hb; simp; omega
  have l6 : b6 < h5.size := by omega
  have l7 : b7 < h5.size := by omega
  refine w.st2 2 rfl rfl rfl rfl fun h7 w7 k7 => ?_
  have sl := keep l6 sl k7
  refine w7.ldw 2 rfl rfl ?_
  refine Ai ?_ ?_
  ·refine w7.ldc 0 rfl rfl ?_
   refine w7.st2 2 rfl rfl rfl rfl fun h8 w8 k8 => ?_
   refine w8.st2 1 rfl rfl rfl rfl fun h9 w9 k9 => ?_
   have sl := keep l7 (keep l6 sl k8) k9
   refine Ai (by simp) (dodef9_calm.mono ?_)
   rintro e u' h' ⟨⟨v, rfl⟩, rfl, rfl⟩
   exact ⟨_, rfl, cells_blk (w9.get 2 rfl), _, cell_blk (w9.get 1 rfl) rfl, w9.chg, _, _, rfl, ⟨ra, rn, rc, rfl, sl, fun _ _ => Nat.zero_le _⟩, (w9.get 0 rfl).2.1.sl, fun b hb => by
    rcases (w9.ents 0 _ rfl).2 b (List.mem_cons_of_mem _ (List.mem_append_left _ hb)) with h1 | h1
    ·cases h1
    ·exact h1⟩
  ·refine w7.st2 2 rfl rfl rfl rfl fun h8 w8 k8 => ?_
   refine w8.ldc 0 rfl rfl ?_
   refine w8.st2 1 rfl rfl rfl rfl fun h9 w9 k9 => ?_
   have sl := keep l7 (keep l6 sl k8) k9
   refine Ai (by simp) (dodef9_calm.mono ?_)
   rintro e u' h' ⟨⟨v, rfl⟩, rfl, rfl⟩
   exact ⟨_, rfl, cells_blk (w9.get 2 rfl), _, cell_blk (w9.get 1 rfl) rfl, w9.chg, _, _, rfl, ⟨ra, rn, rc, rfl, sl, fun _ _ => Nat.zero_le _⟩, (w9.get 0 rfl).2.1.sl, fun b hb => by
    rcases (w9.ents 0 _ rfl).2 b (List.mem_cons_of_mem _ (List.mem_append_left _ hb)) with h1 | h1
    ·cases h1
    ·exact h1⟩
 ·rintro why h6 ⟨he, c6⟩
  subst he
  have w := w6.gone 0 rfl c6 (fun k hk => .inl hk)
  have hi6 := g1.id
  have hi7 := g2.id
  have z1 := g1.size
  refine Ai (by simp) ((dodef9_stop (w.get 2 rfl) rfl (w.get 1 rfl) (w.ne 2 1 rfl rfl (by decide))).mono ?_)
  rintro e u' h' ⟨⟨v, rfl⟩, rfl, B6', B7', c7⟩
  exact ⟨_, rfl, cells_blk B6', _, cell_blk B7' rfl, w.chg.fresh c7 (by simp; omega), rfl⟩
def BoundR9 (N : ByteArray) (lo hi kd wh : Int) : Prop := ∀ h, CallsH Tryz.prog 55 [.string N] h (Ret fun r h' => r = .tuple #[.int .i64 lo, .int .i64 hi, .int .i64 kd, .int .i64 wh, .bool true] ∧ h' = h)
def qHSET : ByteArray := ⟨#[72, 83, 69, 84]⟩
def qLPUSH : ByteArray := ⟨#[76, 80, 85, 83, 72]⟩
theorem rb_LPUSH : BoundR9 qLPUSH 2 65536 3 0 := fun h => by
 refine f55_calls (by simp) ?_
 refine Ai (fun he => absurd he (by decide)) (fun _ => ?_)
 refine Ai (fun he => absurd he (by decide)) (fun _ => ?_)
 refine Ai (fun he => absurd he (by decide)) (fun _ => ?_)
 refine Ai (fun he => absurd he (by decide)) (fun _ => ?_)
 refine Ai (fun he => absurd he (by decide)) (fun _ => ?_)
 refine Ai (fun he => absurd he (by decide)) (fun _ => ?_)
 refine Ai (fun _ => ?_) (fun he => absurd rfl he)
 exact ⟨rfl, rfl⟩
def qRPUSH : ByteArray := ⟨#[82, 80, 85, 83, 72]⟩
theorem rb_RPUSH : BoundR9 qRPUSH 2 65536 3 0 := fun h => by
 refine f55_calls (by simp) ?_
 refine Ai (fun he => absurd he (by decide)) (fun _ => ?_)
 refine Ai (fun he => absurd he (by decide)) (fun _ => ?_)
 refine Ai (fun he => absurd he (by decide)) (fun _ => ?_)
 refine Ai (fun he => absurd he (by decide)) (fun _ => ?_)
 refine Ai (fun he => absurd he (by decide)) (fun _ => ?_)
 refine Ai (fun he => absurd he (by decide)) (fun _ => ?_)
 refine Ai (fun he => absurd he (by decide)) (fun _ => ?_)
 refine Ai (fun _ => ?_) (fun he => absurd rfl he)
 exact ⟨rfl, rfl⟩
def qLPOP : ByteArray := ⟨#[76, 80, 79, 80]⟩
theorem rb_LPOP : BoundR9 qLPOP 1 1 3 0 := fun h => by
 refine f55_calls (by simp) ?_
 refine Ai (fun he => absurd he (by decide)) (fun _ => ?_)
 refine Ai (fun he => absurd he (by decide)) (fun _ => ?_)
 refine Ai (fun he => absurd he (by decide)) (fun _ => ?_)
 refine Ai (fun he => absurd he (by decide)) (fun _ => ?_)
 refine Ai (fun he => absurd he (by decide)) (fun _ => ?_)
 refine Ai (fun he => absurd he (by decide)) (fun _ => ?_)
 refine Ai (fun he => absurd he (by decide)) (fun _ => ?_)
 refine Ai (fun he => absurd he (by decide)) (fun _ => ?_)
 refine Ai (fun _ => ?_) (fun he => absurd rfl he)
 exact ⟨rfl, rfl⟩
def qRPOP : ByteArray := ⟨#[82, 80, 79, 80]⟩
theorem rb_RPOP : BoundR9 qRPOP 1 1 3 0 := fun h => by
 refine f55_calls (by simp) ?_
 refine Ai (fun he => absurd he (by decide)) (fun _ => ?_)
 refine Ai (fun he => absurd he (by decide)) (fun _ => ?_)
 refine Ai (fun he => absurd he (by decide)) (fun _ => ?_)
 refine Ai (fun he => absurd he (by decide)) (fun _ => ?_)
 refine Ai (fun he => absurd he (by decide)) (fun _ => ?_)
 refine Ai (fun he => absurd he (by decide)) (fun _ => ?_)
 refine Ai (fun he => absurd he (by decide)) (fun _ => ?_)
 refine Ai (fun he => absurd he (by decide)) (fun _ => ?_)
 refine Ai (fun he => absurd he (by decide)) (fun _ => ?_)
 refine Ai (fun _ => ?_) (fun he => absurd rfl he)
 exact ⟨rfl, rfl⟩
def qLLEN : ByteArray := ⟨#[76, 76, 69, 78]⟩
theorem rb_LLEN : BoundR9 qLLEN 1 1 3 0 := fun h => by
 refine f55_calls (by simp) ?_
 refine Ai (fun he => absurd he (by decide)) (fun _ => ?_)
 refine Ai (fun he => absurd he (by decide)) (fun _ => ?_)
 refine Ai (fun he => absurd he (by decide)) (fun _ => ?_)
 refine Ai (fun he => absurd he (by decide)) (fun _ => ?_)
 refine Ai (fun he => absurd he (by decide)) (fun _ => ?_)
 refine Ai (fun he => absurd he (by decide)) (fun _ => ?_)
 refine Ai (fun he => absurd he (by decide)) (fun _ => ?_)
 refine Ai (fun he => absurd he (by decide)) (fun _ => ?_)
 refine Ai (fun he => absurd he (by decide)) (fun _ => ?_)
 refine Ai (fun he => absurd he (by decide)) (fun _ => ?_)
 refine Ai (fun _ => ?_) (fun he => absurd rfl he)
 exact ⟨rfl, rfl⟩
def qLINDEX : ByteArray := ⟨#[76, 73, 78, 68, 69, 88]⟩
theorem rb_LINDEX : BoundR9 qLINDEX 2 2 3 1 := fun h => by
 refine f55_calls (by simp) ?_
 refine Ai (fun he => absurd he (by decide)) (fun _ => ?_)
 refine Ai (fun he => absurd he (by decide)) (fun _ => ?_)
 refine Ai (fun he => absurd he (by decide)) (fun _ => ?_)
 refine Ai (fun he => absurd he (by decide)) (fun _ => ?_)
 refine Ai (fun he => absurd he (by decide)) (fun _ => ?_)
 refine Ai (fun he => absurd he (by decide)) (fun _ => ?_)
 refine Ai (fun he => absurd he (by decide)) (fun _ => ?_)
 refine Ai (fun he => absurd he (by decide)) (fun _ => ?_)
 refine Ai (fun he => absurd he (by decide)) (fun _ => ?_)
 refine Ai (fun he => absurd he (by decide)) (fun _ => ?_)
 refine Ai (fun he => absurd he (by decide)) (fun _ => ?_)
 refine Ai (fun _ => ?_) (fun he => absurd rfl he)
 exact ⟨rfl, rfl⟩
def qLRANGE : ByteArray := ⟨#[76, 82, 65, 78, 71, 69]⟩
theorem rb_LRANGE : BoundR9 qLRANGE 3 3 3 3 := fun h => by
 refine f55_calls (by simp) ?_
 refine Ai (fun he => absurd he (by decide)) (fun _ => ?_)
 refine Ai (fun he => absurd he (by decide)) (fun _ => ?_)
 refine Ai (fun he => absurd he (by decide)) (fun _ => ?_)
 refine Ai (fun he => absurd he (by decide)) (fun _ => ?_)
 refine Ai (fun he => absurd he (by decide)) (fun _ => ?_)
 refine Ai (fun he => absurd he (by decide)) (fun _ => ?_)
 refine Ai (fun he => absurd he (by decide)) (fun _ => ?_)
 refine Ai (fun he => absurd he (by decide)) (fun _ => ?_)
 refine Ai (fun he => absurd he (by decide)) (fun _ => ?_)
 refine Ai (fun he => absurd he (by decide)) (fun _ => ?_)
 refine Ai (fun he => absurd he (by decide)) (fun _ => ?_)
 refine Ai (fun he => absurd he (by decide)) (fun _ => ?_)
 refine Ai (fun _ => ?_) (fun he => absurd rfl he)
 exact ⟨rfl, rfl⟩
def qLSET : ByteArray := ⟨#[76, 83, 69, 84]⟩
theorem rb_LSET : BoundR9 qLSET 3 3 3 1 := fun h => by
 refine f55_calls (by simp) ?_
 refine Ai (fun he => absurd he (by decide)) (fun _ => ?_)
 refine Ai (fun he => absurd he (by decide)) (fun _ => ?_)
 refine Ai (fun he => absurd he (by decide)) (fun _ => ?_)
 refine Ai (fun he => absurd he (by decide)) (fun _ => ?_)
 refine Ai (fun he => absurd he (by decide)) (fun _ => ?_)
 refine Ai (fun he => absurd he (by decide)) (fun _ => ?_)
 refine Ai (fun he => absurd he (by decide)) (fun _ => ?_)
 refine Ai (fun he => absurd he (by decide)) (fun _ => ?_)
 refine Ai (fun he => absurd he (by decide)) (fun _ => ?_)
 refine Ai (fun he => absurd he (by decide)) (fun _ => ?_)
 refine Ai (fun he => absurd he (by decide)) (fun _ => ?_)
 refine Ai (fun he => absurd he (by decide)) (fun _ => ?_)
 refine Ai (fun he => absurd he (by decide)) (fun _ => ?_)
 refine Ai (fun _ => ?_) (fun he => absurd rfl he)
 exact ⟨rfl, rfl⟩
def qSINTER : ByteArray := ⟨#[83, 73, 78, 84, 69, 82]⟩
def qZADD : ByteArray := ⟨#[90, 65, 68, 68]⟩
def need9 (wh : Int) (i : Nat) : Prop := (wh = 4 ∧ i % 2 = 1) ∨ wh = 3 ∨ (wh = i ∧ wh < 3)
section
variable {rest : List Value} {h0 h h1 h' : Heap} {xb i : Nat} {now n wh kd lo hi : Int} {kv av lv : Value} {k : List RX} {A l : List ByteArray} {L : List Eff} {why key N : ByteArray} {M : List En} {T : List Nat} {e e1 e2 : En} {res : Res}
theorem RxO9.trans {h2 : Heap} (a : RxO9 h0 h e h1 e1) (b : RxO9 h0 h1 e1 h2 e2) : RxO9 h0 h e h2 e2 := by
 obtain ⟨a1, a2⟩ := a
 obtain ⟨b1, b2⟩ := b
 have hz := a2.chg.size
 refine ⟨b1, b2.at_, a2.chg.trans b2.chg (fun b hb => hb) (fun b hb hlt => ?_), fun b hb => ?_⟩
 ·rcases a2.fresh b hb with h | h
  ·exact h
  ·omega
 ·rcases b2.fresh b hb with h | h
  ·exact a2.fresh b h
  ·exact .inr (by omega)
set_option maxHeartbeats 1000000 in
theorem rnums9_calls (c : RC9 h0 kv k av A) (x : As h0 h (rxE9 xb rest kv now av lv L noText)) (hA : A.length ≤ 20) (hz : ∀ s ∈ A, s.size ≤ 300) : CallsH Tryz.prog 57 [ptr xb, .int .i64 wh] h
  (Ret fun r h' => ((∀ j, 1 ≤ j → j < A.length → need9 wh j → ∃ m, (A[j]?.bind numOf) = some m) ∧ r = .bool true ∧ RxO9 h0 h (rxE9 xb rest kv now av lv L noText) h' (rxE9 xb rest kv now av lv L noText)) ∨
   ((∃ j, 1 ≤ j ∧ j < A.length ∧ need9 wh j ∧ (A[j]?.bind numOf) = none) ∧ r = .bool false ∧ RxO9 h0 h (rxE9 xb rest kv now av lv L noText) h' (rxE9 xb rest kv now av lv L wNum))) := by
 obtain ⟨a, cc, rfl⟩ := c.argN
 refine f57_calls (by simp) ?_
 refine loop_intro (fun i : Nat => [(0, ptr xb), (1, .int .i64 wh), (4, .bool false), (5, .int .i64 i)])
  (fun i h' => 1 ≤ i ∧ (i ≤ A.length ∨ i = 1) ∧ (∀ j, 1 ≤ j → j < i → need9 wh j → ∃ m, (A[j]?.bind numOf) = some m) ∧ RxO9 h0 h (rxE9 xb rest kv now (.slice a A.length cc) lv L noText) h' (rxE9 xb rest kv now (.slice a A.length cc) lv L noText))
  (fun i => A.length + 1 - i) 1 ⟨rfl, rfl, rfl, rfl, trivial⟩ ⟨Nat.le_refl _, .inr rfl, fun j h1 h2 => absurd h2 (by omega), RxO9.refl x (Chg.refl _)⟩ ?_
 rintro i h4 ⟨hi1, hil, hall, rx⟩
 have w := rx.1.st
 refine w.ldr9 0 rfl rfl ?_
 refine Ai rfl (Ai (fun hlt => ?_) (fun hge => ?_))
 ·have hlt : i < A.length := by omega
  refine Ai rfl (Ai (fun q1 => ?_) (fun q1 => ?_))
  ·refine Ai rfl (Ai (by decide) (fun z hz' => ?_))
   have hz' : z = ((i % 2 : Nat) : Int) := by rw [hz']; exact (Int.ofNat_tmod i 2).symm
   subst hz'
   refine Ai rfl (Ai (fun q2 => ?_) (fun q2 => ?_))
   ·have hneed : need9 wh i := .inl ⟨q1, by omega⟩
    refine call_ret (rnumA9_calls c rx.1 (List.getElem?_eq_getElem hlt) (by have := hz _ (List.getElem_mem hlt); omega)) ?_
    rintro _ h5 ⟨rfl, r5⟩
    cases hn : numOf A[i] with
    |none =>
     rw [hn] at r5
     exact .inr ⟨⟨i, by omega, hlt, hneed, by rw [List.getElem?_eq_getElem hlt]; exact hn⟩, rfl, rx.trans r5⟩
    |some m =>
     rw [hn] at r5
     have rx := rx.trans r5
     refine Ai rfl (fun z hz => ?_)
     have hz := add_in hz (by omega) (by omega)
     subst hz
     refine Ai rfl (Ei (i + 1) (Ai ⟨rfl, rfl, rfl, rfl, trivial⟩ (Ai ⟨by omega, .inl hlt, fun j h1 h2 => ?_, rx⟩ (by omega))))
     rcases Nat.lt_or_ge j i with h3 | h3
     ·exact hall j h1 h3
     ·obtain rfl : j = i := by omega
      exact fun _ => by rw [List.getElem?_eq_getElem hlt]; exact ⟨m, hn⟩
   ·refine Ai rfl (Ai (fun q3 => absurd q3 (by omega)) (fun q3 => ?_))
    refine Ai rfl (Ai (fun q4 => ?_) (fun q4 => ?_))
    ·refine Ai rfl (Ai (fun q5 => absurd q5 (by omega)) (fun q5 => ?_))
     refine Ai rfl (fun z hz => ?_)
     have hz := add_in hz (by omega) (by omega)
     subst hz
     refine Ai rfl (Ei (i + 1) (Ai ⟨rfl, rfl, rfl, rfl, trivial⟩ (Ai ⟨by omega, .inl hlt, fun j h1 h2 => ?_, rx⟩ (by omega))))
     rcases Nat.lt_or_ge j i with h3 | h3
     ·exact hall j h1 h3
     ·obtain rfl : j = i := by omega
      exact fun hn => by unfold need9 at hn; omega
    ·refine Ai rfl (fun z hz => ?_)
     have hz := add_in hz (by omega) (by omega)
     subst hz
     refine Ai rfl (Ei (i + 1) (Ai ⟨rfl, rfl, rfl, rfl, trivial⟩ (Ai ⟨by omega, .inl hlt, fun j h1 h2 => ?_, rx⟩ (by omega))))
     rcases Nat.lt_or_ge j i with h3 | h3
     ·exact hall j h1 h3
     ·obtain rfl : j = i := by omega
      exact fun hn => by unfold need9 at hn; omega
  ·refine Ai rfl (Ai (fun q3 => ?_) (fun q3 => ?_))
   ·have hneed : need9 wh i := .inr (.inl q3)
    refine call_ret (rnumA9_calls c rx.1 (List.getElem?_eq_getElem hlt) (by have := hz _ (List.getElem_mem hlt); omega)) ?_
    rintro _ h5 ⟨rfl, r5⟩
    cases hn : numOf A[i] with
    |none =>
     rw [hn] at r5
     exact .inr ⟨⟨i, by omega, hlt, hneed, by rw [List.getElem?_eq_getElem hlt]; exact hn⟩, rfl, rx.trans r5⟩
    |some m =>
     rw [hn] at r5
     have rx := rx.trans r5
     refine Ai rfl (fun z hz => ?_)
     have hz := add_in hz (by omega) (by omega)
     subst hz
     refine Ai rfl (Ei (i + 1) (Ai ⟨rfl, rfl, rfl, rfl, trivial⟩ (Ai ⟨by omega, .inl hlt, fun j h1 h2 => ?_, rx⟩ (by omega))))
     rcases Nat.lt_or_ge j i with h3 | h3
     ·exact hall j h1 h3
     ·obtain rfl : j = i := by omega
      exact fun _ => by rw [List.getElem?_eq_getElem hlt]; exact ⟨m, hn⟩
   ·refine Ai rfl (Ai (fun q4 => ?_) (fun q4 => ?_))
    ·refine Ai rfl (Ai (fun q5 => ?_) (fun q5 => ?_))
     ·have hneed : need9 wh i := .inr (.inr ⟨q4, q5⟩)
      refine call_ret (rnumA9_calls c rx.1 (List.getElem?_eq_getElem hlt) (by have := hz _ (List.getElem_mem hlt); omega)) ?_
      rintro _ h5 ⟨rfl, r5⟩
      cases hn : numOf A[i] with
      |none =>
       rw [hn] at r5
       exact .inr ⟨⟨i, by omega, hlt, hneed, by rw [List.getElem?_eq_getElem hlt]; exact hn⟩, rfl, rx.trans r5⟩
      |some m =>
       rw [hn] at r5
       have rx := rx.trans r5
       refine Ai rfl (fun z hz => ?_)
       have hz := add_in hz (by omega) (by omega)
       subst hz
       refine Ai rfl (Ei (i + 1) (Ai ⟨rfl, rfl, rfl, rfl, trivial⟩ (Ai ⟨by omega, .inl hlt, fun j h1 h2 => ?_, rx⟩ (by omega))))
       rcases Nat.lt_or_ge j i with h3 | h3
       ·exact hall j h1 h3
       ·obtain rfl : j = i := by omega
        exact fun _ => by rw [List.getElem?_eq_getElem hlt]; exact ⟨m, hn⟩
     ·refine Ai rfl (fun z hz => ?_)
      have hz := add_in hz (by omega) (by omega)
      subst hz
      refine Ai rfl (Ei (i + 1) (Ai ⟨rfl, rfl, rfl, rfl, trivial⟩ (Ai ⟨by omega, .inl hlt, fun j h1 h2 => ?_, rx⟩ (by omega))))
      rcases Nat.lt_or_ge j i with h3 | h3
      ·exact hall j h1 h3
      ·obtain rfl : j = i := by omega
       exact fun hn => by unfold need9 at hn; omega
    ·refine Ai rfl (fun z hz => ?_)
     have hz := add_in hz (by omega) (by omega)
     subst hz
     refine Ai rfl (Ei (i + 1) (Ai ⟨rfl, rfl, rfl, rfl, trivial⟩ (Ai ⟨by omega, .inl hlt, fun j h1 h2 => ?_, rx⟩ (by omega))))
     rcases Nat.lt_or_ge j i with h3 | h3
     ·exact hall j h1 h3
     ·obtain rfl : j = i := by omega
      exact fun hn => by unfold need9 at hn; omega
 ·exact .inl ⟨fun j h1 h2 => hall j h1 (by omega), rfl, rx⟩
end
end Go.Proofs.YtjnijlnmbjjgpaaGreatDoor
namespace Go.Proofs.YtjnijlnmbjjgpaaGreatDoor
open Go Go.Sx C
def NumsOk (wh : Int) (A : List ByteArray) : Prop := ∀ j, 1 ≤ j → j < A.length → need9 wh j → ∃ m, (A[j]?.bind numOf) = some m
set_option maxHeartbeats 1000000 in
theorem rdoL_calls {h : Heap} {kv av : Value} {k : List RX} {now lo hi wh : Int} {w N : ByteArray} {A : List ByteArray} {res : Res} (hsl : SL encX h kv k) (hgx : GX h k) (hup : UpX k) (hlen : k.length < 4611686018427387904) (hfit : KeysFit k)
  (hA : SL encS h av (w :: A)) (hal : A.length + 1 ≤ 20) (hzw : w.size ≤ 300) (hz : ∀ s ∈ A, s.size ≤ 300) (hN : up w = N) (hb : BoundR9 N lo hi 3 wh) (hlo : 1 ≤ lo) (hn1 : N ≠ qHSET) (hn2 : N ≠ qZADD) (hn3 : N ≠ qSINTER)
  (hout : ¬ (lo ≤ A.length ∧ (A.length : Int) ≤ hi) → res = .error wArgs)
  (hnum : lo ≤ A.length → (A.length : Int) ≤ hi → (∃ j, 1 ≤ j ∧ j < A.length ∧ need9 wh j ∧ (A[j]?.bind numOf) = none) → res = .error wNum)
  (hkd : lo ≤ A.length → (A.length : Int) ≤ hi → NumsOk wh A → ∀ key, A[0]? = some key → okK 3 (getS (k.map RX.pr) key now) = false → res = .error wType)
  (ht9 : ∀ key, T9 ((getS (k.map RX.pr) key now).getD zeroT))
  (hf : ∀ {h1 : Heap} {xb : Nat} {av' pv lw rv : Value} {key : ByteArray}, A[0]? = some key → lo ≤ A.length → (A.length : Int) ≤ hi → NumsOk wh A → okK 3 (getS (k.map RX.pr) key now) = true → RG9 h kv k av' A key ((getS (k.map RX.pr) key now).getD zeroT) pv lw rv →
   As h h1 (aT xb ((getS (k.map RX.pr) key now).getD zeroT) pv lw rv key kv now av' (.slice none 0 0) [] noText) →
   CallsH Tryz.prog 61 [ptr xb, .string N] h1 (Ret (Reply9 h h1 xb ((getS (k.map RX.pr) key now).getD zeroT) pv lw rv key kv now av' (.slice none 0 0) res))) :
  CallsH Tryz.prog 31 [kv, .int .i64 now, av] h (Ret (DoR h res)) := by
 obtain ⟨ka, kc, rfl, _⟩ := hsl.form
 obtain ⟨a, cc, rfl, hcc⟩ := hA.form
 obtain ⟨b0, o0, rfl⟩ := hA.addr (by simp)
 have hl : (w :: A).length ≤ 20 := hal
 refine f31_calls (by simp) ?_
 intro b6 h1 g1
 have w1 := (St.start h).new g1
 refine Ai rfl (Ai (fun h0 => absurd h0 (by simp; omega)) (fun _ => ?_))
 have hc0 := (hA.ext w1.chg).cells encS_len (i := 0) (x := w) (by simp)
 refine Ai (by decide) (Ai (by simp) (Ei _ (Ai (by simpa using hc0 0 _ rfl) ?_)))
 refine w1.callv (rword_calls (by omega)) fun h2 w2 => ?_
 rw [hN]
 refine callp (hb h2) ?_
 refine Ai (by decide) (Ai (by simp only [List.length_cons]; omega) (Ai (by omega) ?_))
 refine sl_slc (lo := 1) (hi := (w :: A).length) encS_len (hA.ext w2.chg) (by simp) (Nat.le_refl _) fun v1 hv1 => ?_
 have e1 : ((w :: A).drop 1).take ((w :: A).length - 1) = A := by simp
 rw [e1] at hv1
 obtain ⟨a1, cc1, rfl, hcc1⟩ := (hv1 h hA).form
 intro xb h5 g5
 have w5 := w2.new g5
 have z2 := w2.chg.size
 have i5 := g5.id
 have c : RC9 h (.slice ka k.length kc) k (.slice a1 A.length cc1) A := ⟨hsl, hgx, hup, hlen, hfit, fun h' hc => hv1 h' (hA.ext hc)⟩
 have nomem : xb ∉ vblk (.slice none 0 0) := fun hm => (nomatch (show xb ∈ ([] : List Nat) from hm))
 have w : St [] h h5 [aT xb zeroT (.slice none 0 0) (.slice none 0 0) (.slice none 0 0) noText (.slice ka k.length kc) now (.slice a1 A.length cc1) (.slice none 0 0) [] noText, .b b6 [.int .i64 0, .int .i64 0, .string ⟨#[]⟩, .slice none 0 0]] :=
  w5.set 0 rfl (Chg.refl _) (by simp) ⟨w5.get 0 rfl, OL.nil, nomem⟩ (fun b hb => by
   rcases List.mem_cons.1 hb with rfl | hb
   ·exact .inl (by simp [En.fp])
   ·exact (nomatch (show b ∈ ([] : List Nat) from hb)))
 refine call_ret (rmany9_calls c (w.as 0 rfl)) ?_
 rintro _ h6 (⟨m1, m2, rfl, _, o6⟩ | ⟨mn, rfl, _, o6⟩)
 rotate_left
 ·have w := w.own 0 rfl o6
  refine w.ldr9 0 rfl rfl ?_
  refine w.callv rFail9_calls fun h7 w => ?_
  refine w.st1 1 rfl rfl rfl rfl fun h8 w => ?_
  rw [hout mn]
  exact ⟨_, rfl, cells_blk (w.get 1 rfl), w.chg, rfl⟩
 have w := w.own 0 rfl o6
 refine Ai (fun he => absurd he hn1) (fun _ => ?_)
 refine Ai (fun he => absurd he hn2) (fun _ => ?_)
 refine call_ret (rnums9_calls c (w.as 0 rfl) (by omega) hz) ?_
 rintro _ h7 (⟨hall, rfl, _, o7⟩ | ⟨hbad, rfl, _, o7⟩)
 rotate_left
 ·have w := w.own 0 rfl o7
  refine w.ldr9 0 rfl rfl ?_
  refine w.callv rFail9_calls fun h8 w => ?_
  refine w.st1 1 rfl rfl rfl rfl fun h9 w => ?_
  rw [hnum m1 m2 hbad]
  exact ⟨_, rfl, cells_blk (w.get 1 rfl), w.chg, rfl⟩
 have w := w.own 0 rfl o7
 have hpos : 0 < A.length := by omega
 obtain ⟨key, hkey⟩ : ∃ key, A[0]? = some key := ⟨_, List.getElem?_eq_getElem hpos⟩
 have hks : key.size ≤ 300 := hz key (List.mem_of_getElem? hkey)
 obtain ⟨b1, o1, cc2, he1⟩ := c.argF hpos
 obtain ⟨rfl, _, rfl⟩ := Value.slice.inj he1
 refine w.ldr9 0 rfl rfl ?_
 refine c.ix (w.chg) 0 rfl hkey ?_
 refine w.stK9 0 rfl fun h8 w => ?_
 intro b17 h9 g9
 have w := w.new g9
 refine Ai (fun he => absurd he hn3) (fun _ => ?_)
 refine call_ret (rof9_calls (kd := 3) c (w.as 1 rfl) (by omega)) ?_
 rintro _ h10 ⟨pv, lw, rv, rfl, hth, _, o10⟩
 have w := w.own 1 rfl o10
 have l6 : b6 < h10.size := (show Blk h10 b6 _ from w.get 2 rfl).lt
 have l17 : b17 < h10.size := (show Blk h10 b17 _ from w.get 0 rfl).lt
 have fail : ∀ {h' : Heap} {why : ByteArray} {t' : Thing} {pv' lw' rv' lv' : Value} {key' : ByteArray} {E : List Eff} {r17 : List Value}, why ≠ noText → res = .error why → St [] h h' [.b b17 r17, aT xb t' pv' lw' rv' key' (.slice ka k.length kc) now (.slice (some ⟨b1, o1, none⟩) A.length cc1) lv' E why, .b b6 [.int .i64 0, .int .i64 0, .string ⟨#[]⟩, .slice none 0 0]] →
   swp Tryz.prog (.seq (.seq (.ops f31r28) (.cond (.tmp 130) (.seq (.ops f31r29) .ret) .skip)) (.seq (.two f31p30 f31r30 f31s30) .ret)) (retQ [.cn 6 4, .t 7, .t 8] (Ret (DoR h res))) (mk [(6, ptr b6), (15, ptr xb), (17, ptr b17)]) [] h' := by
  intro h' why t' pv' lw' rv' lv' key' E r17 hw hr w
  refine w.ldr9 1 rfl rfl ?_
  refine Ai (fun _ => ?_) (fun h9 => absurd (fun e => hw e) h9)
  refine w.ldr9 1 rfl rfl ?_
  refine w.callv rFail9_calls fun h10 w => ?_
  refine w.st1 2 rfl rfl rfl rfl fun h11 w => ?_
  rw [hr]
  exact ⟨_, rfl, cells_blk (w.get 2 rfl), w.chg, rfl⟩
 cases hok : okK 3 (getS (k.map RX.pr) key now) with
 |false =>
  rw [hok] at w
  exact cut_at [(6, ptr b6), (15, ptr xb), (17, ptr b17)] ⟨rfl, rfl, rfl, trivial⟩ (fail (why := wType) (by decide) (hkd m1 m2 hall key hkey hok) w)
 |true =>
  rw [hok] at w
  refine Ai rfl (Ai (fun he => absurd he (by decide)) (fun _ => ?_))
  refine Ai rfl (Ai (fun _ => ?_) (fun he => absurd rfl he))
  refine call_ret (hf hkey m1 m2 hall hok ⟨c, hth, ht9 key, hks, hz, by omega⟩ (w.as 1 rfl)) ?_
  rintro _ h11 ⟨q, lv', E, why, ⟨ra, rn, rc, rfl, sl, fr⟩, ⟨t', pv', lw', rv', key', _, o11⟩, hd⟩
  have w := w.own 1 rfl o11
  refine w.st2 0 rfl rfl rfl rfl fun h12 w k12 => ?_
  have sl12 : SL encQ h12 (.slice ra rn rc) q.l := sl.chg k12 (fun b hb => by have := fr b hb; simp; omega)
  rcases hd with ⟨rfl, hd⟩ | ⟨hne, hd⟩
  ·refine w.ldr9 1 rfl rfl ?_
   refine Ai (fun h9 => absurd rfl h9) (fun _ => ?_)
   obtain ⟨la, lc, rfl⟩ := w.rform9 1 rfl
   have fin : ∀ {h' : Heap}, St [] h h' [.b b17 [.int .i64 q.k, .int .i64 q.i, .string q.s, .slice ra rn rc], aT xb t' pv' lw' rv' key' (.slice ka k.length kc) now (.slice (some ⟨b1, o1, none⟩) A.length cc1) (.slice la E.length lc) E noText, .b b6 [.int .i64 q.k, .int .i64 q.i, .string q.s, .slice ra rn rc]] → Chg [b6] h12 h' →
     ∃ vs, vs.length = 4 ∧ Cells h' b6 0 vs ∧ DoR h res (.tuple ⟨[.agg ⟨vs⟩, .slice la E.length lc, .bool true]⟩) h' := fun w k => by
    rw [hd]
    refine ⟨_, rfl, cells_blk (w.get 2 rfl), w.chg, _, _, rfl, ⟨ra, rn, rc, rfl, sl12.chg k (fun b hb => by have := fr b hb; simp; omega), fun _ _ => Nat.zero_le _⟩, (w.get 1 rfl).2.1.sl, fun b hb => ?_⟩
    rcases (w.ents 1 _ rfl).2 b (List.mem_cons_of_mem _ hb) with h1 | h1
    ·cases h1
    ·exact h1
   refine w.ldw 0 rfl rfl ?_
   refine Ai ?_ ?_
   ·refine w.ldr9 1 rfl rfl ?_
    refine w.st2 2 rfl rfl rfl rfl fun h13 w k13 => ?_
    exact fin w k13
   ·refine w.st2 2 rfl rfl rfl rfl fun h13 w k13 => ?_
    refine w.ldr9 1 rfl rfl ?_
    exact fin w k13
  ·exact cut_at [(6, ptr b6), (15, ptr xb), (17, ptr b17)] ⟨rfl, rfl, rfl, trivial⟩ (fail hne hd w)
inductive RT where
 |mk (k i : Int) (s : ByteArray) (v : Value) (l : List RT)
def encT : RT → List Value
 |.mk k i s v _ => [.int .i64 k, .int .i64 i, .string s, v]
mutual
def RT.ok (h : Heap) : RT → Prop
 |.mk _ _ _ v l => SL encT h v l ∧ l.length < 4611686018427387904 ∧ RT.oks h l
def RT.oks (h : Heap) : List RT → Prop
 |[] => True
 |t :: l => t.ok h ∧ RT.oks h l
end
mutual
def RT.same : RT → RT → Bool
 |.mk k i s _ l, .mk k' i' s' _ m => decide (k = k') && decide (i = i') && decide (s = s') && RT.sames l m
def RT.sames : List RT → List RT → Bool
 |[], [] => true
 |x :: l, y :: m => x.same y && RT.sames l m
 |_, _ => false
end
mutual
theorem RT.ok.ext {h h' : Heap} (hc : Chg [] h h') : ∀ {t : RT}, t.ok h → t.ok h'
 |.mk _ _ _ _ _, ⟨h1, h2, h3⟩ => ⟨h1.ext hc, h2, RT.oks.ext hc h3⟩
theorem RT.oks.ext {h h' : Heap} (hc : Chg [] h h') : ∀ {l : List RT}, RT.oks h l → RT.oks h' l
 |[], _ => trivial
 |_ :: _, ⟨h1, h2⟩ => ⟨h1.ext hc, RT.oks.ext hc h2⟩
end
theorem RT.oks.mem {h : Heap} : ∀ {l : List RT}, RT.oks h l → ∀ t ∈ l, t.ok h
 |_ :: _, ⟨h1, h2⟩, t, ht => by
  rcases List.mem_cons.1 ht with rfl | ht
  ·exact h1
  ·exact RT.oks.mem h2 t ht
theorem encT_len : ∀ t, (encT t).length = 4
 |.mk _ _ _ _ _ => rfl
theorem sames_len : ∀ {l m : List RT}, l.length ≠ m.length → RT.sames l m = false
 |[], [], h => absurd rfl h
 |[], _ :: _, _ => by simp [RT.sames]
 |_ :: _, [], _ => by simp [RT.sames]
 |x :: l, y :: m, h => by
  simp only [RT.sames, Bool.and_eq_false_iff]
  exact .inr (sames_len (by simpa using h))
mutual
theorem RT.same_refl : ∀ t : RT, t.same t = true
 |.mk _ _ _ _ l => by simp [RT.same, RT.sames_refl l]
theorem RT.sames_refl : ∀ l : List RT, RT.sames l l = true
 |[] => by simp [RT.sames]
 |t :: l => by simp [RT.sames, RT.same_refl t, RT.sames_refl l]
end
theorem sames_drop {l m : List RT} {q : Nat} (hl : q < l.length) (hm : q < m.length) : RT.sames (l.drop q) (m.drop q) = (l[q].same m[q] && RT.sames (l.drop (q + 1)) (m.drop (q + 1))) := by
 rw [List.drop_eq_getElem_cons hl, List.drop_eq_getElem_cons hm, RT.sames]
theorem sizeOf_item {k i : Int} {s : ByteArray} {v : Value} {l : List RT} {q : Nat} (hq : q < l.length) : SizeOf.sizeOf l[q] < SizeOf.sizeOf (RT.mk k i s v l) := by
 have h1 := List.sizeOf_lt_of_mem (List.getElem_mem hq)
 rw [RT.mk.sizeOf_spec]; omega
theorem rsame_calls : ∀ (n : Nat) (a b : RT) (h : Heap), SizeOf.sizeOf a < n → a.ok h → b.ok h → CallsH Tryz.prog 27 [.agg ⟨encT a⟩, .agg ⟨encT b⟩] h (Ret fun r h' => r = .bool (a.same b) ∧ Chg [] h h')
 |0, _, _, _, hn, _, _ => absurd hn (by omega)
 |n + 1, .mk k i s v l, .mk k' i' s' v' m, h, hn, ⟨hv, hl, hls⟩, ⟨hu, hm, hms⟩ => by
  obtain ⟨x, c, rfl, hlc⟩ := hv.form
  obtain ⟨x', c', rfl, hmc⟩ := hu.form
  have hs : RT.same (.mk k i s (.slice x l.length c) l) (.mk k' i' s' (.slice x' m.length c') m) = (decide (k = k') && decide (i = i') && decide (s = s') && RT.sames l m) := by rw [RT.same]
  rw [hs]
  refine f27_calls (by simp) ?_
  intro b1 h1 g1 b2 h2 g2
  have B1 : Blk h2 b1 [.int .i64 k, .int .i64 i, .string s, .slice x l.length c] := Blk.chg g1.blk g2.chg (by simp)
  have B2 : Blk h2 b2 [.int .i64 k', .int .i64 i', .string s', .slice x' m.length c'] := g2.blk
  have ch : Chg [] h h2 := g1.chg.nil g2.chg
  refine Ei _ (Ai (cell_blk B1 rfl) (Ei _ (Ai (cell_blk B2 rfl) (Ai rfl (Ai (fun hne => ?_) (fun he => ?_))))))
  ·exact Ai (by rw [decide_eq_false hne]; rfl) ch
  have he : k = k' := Classical.not_not.1 he
  refine Ei _ (Ai (cell_blk B1 rfl) (Ei _ (Ai (cell_blk B2 rfl) (Ai rfl (Ai (fun hne => ?_) (fun he2 => ?_))))))
  ·exact Ai (by rw [decide_eq_false hne, Bool.and_false]; rfl) ch
  have he2 : i = i' := Classical.not_not.1 he2
  refine Ei _ (Ai (cell_blk B1 rfl) (Ei _ (Ai (cell_blk B2 rfl) (Ai (fun hne => ?_) (fun he3 => ?_)))))
  ·exact Ai (by rw [decide_eq_false hne, Bool.and_false]; rfl) ch
  have he3 : s = s' := Classical.not_not.1 he3
  rw [decide_eq_true he, decide_eq_true he2, decide_eq_true he3, Bool.true_and, Bool.true_and, Bool.true_and]
  refine Ei _ (Ai (cell_blk B1 rfl) (Ei _ (Ai (cell_blk B2 rfl) (Ai rfl (Ai (fun hne => ?_) (fun he4 => ?_))))))
  ·exact Ai (by rw [sames_len (by omega)]; rfl) ch
  have he4 : l.length = m.length := by omega
  clear hs he he2 he3 g1 g2
  refine loop_intro (fun q : Nat => [(2, .pointer (some ⟨b1, 0, none⟩)), (3, .pointer (some ⟨b2, 0, none⟩)), (5, .int .i64 q)]) (fun q h' => q ≤ l.length ∧ Chg [] h2 h' ∧ RT.sames l m = RT.sames (l.drop q) (m.drop q)) (fun q => l.length - q) 0 ⟨rfl, rfl, rfl, trivial⟩ ⟨Nat.zero_le _, Chg.refl _, rfl⟩ ?_
  rintro q h3 ⟨hq, hc3, hr⟩
  have C1 := B1.chg hc3 (by simp)
  have C2 := B2.chg hc3 (by simp)
  refine Ei _ (Ai (cell_blk C1 rfl) (Ai rfl (Ai (fun hlt => ?_) (fun hge => ?_))))
  ·have hlt : q < l.length := by omega
   have hltm : q < m.length := by omega
   have hch := ch.nil hc3
   obtain ⟨b, o, rfl⟩ := hv.addr (by omega)
   obtain ⟨b', o', rfl⟩ := hu.addr (by omega)
   have hcs := (hv.ext hch).cells encT_len (i := q) (x := l[q]) (by simp [hlt])
   have hds := (hu.ext hch).cells encT_len (i := q) (x := m[q]) (by simp [hltm])
   refine Ei _ (Ai (cell_blk C1 rfl) ?_)
   refine Ai (by omega) (Ai (by omega) (Ei (encT l[q]) (Ai (encT_len _) (Ai hcs ?_))))
   refine Ei _ (Ai (cell_blk C2 rfl) ?_)
   refine Ai (by omega) (Ai (by omega) (Ei (encT m[q]) (Ai (encT_len _) (Ai hds ?_))))
   refine call_ret (rsame_calls n l[q] m[q] h3 (by have := sizeOf_item (k := k) (i := i) (s := s) (v := .slice (some ⟨b, o, none⟩) l.length c) hlt; omega) ((hls.mem _ (List.getElem_mem hlt)).ext hch) ((hms.mem _ (List.getElem_mem hltm)).ext hch)) ?_
   rintro r h4 ⟨hrr, hc4⟩
   rw [sames_drop hlt hltm] at hr
   cases hsm : l[q].same m[q] with
   |false =>
    rw [hsm] at hrr hr
    subst hrr
    exact Ai (by rw [hr]; rfl) (hch.nil hc4)
   |true =>
    rw [hsm] at hrr hr
    subst hrr
    refine Ai rfl (fun z hz => ?_)
    have hz := add_in hz (by omega) (by omega)
    subst hz
    refine Ai rfl (Ei (q + 1) (Ai ⟨rfl, rfl, rfl, trivial⟩ (Ai ⟨by omega, hc3.nil hc4, by rw [hr, Bool.true_and]⟩ (by omega))))
  ·have hkl : q = l.length := by omega
   subst hkl
   rw [List.drop_length, he4, List.drop_length, RT.sames] at hr
   exact Ai (by rw [hr]; rfl) (ch.nil hc3)
structure FitE (e : Eff) (r : Rule) : Prop where
 rule : ruleR e.op = some r
 name : r.name = false → e.name = noText
 text : r.text = false → e.text = noText
 num : r.number = false → e.num = 0
 key : e.key.size ≤ 1048576
 nsz : e.name.size ≤ 1048576
 tsz : e.text.size ≤ 1048576
section
variable {S : Space} {k n key : ByteArray} {now kd : Int} {t : Thing} {e : Eff} {r : Rule} {E : List Eff}
theorem FitE.h1 (f : FitE e r) : ¬ ((r.name = false ∧ e.name ≠ noText) ∨ (r.text = false ∧ e.text ≠ noText) ∨ (r.number = false ∧ e.num ≠ 0)) := by
 rintro (⟨h, h2⟩ | ⟨h, h2⟩ | ⟨h, h2⟩)
 ·exact h2 (f.name h)
 ·exact h2 (f.text h)
 ·exact h2 (f.num h)
theorem FitE.h2 (f : FitE e r) : ¬ (1048576 < e.key.size ∨ 1048576 < e.name.size ∨ 1048576 < e.text.size) := by
 have := f.key; have := f.nsz; have := f.tsz
 omega
theorem FitE.is (f : FitE e r) {full : Bool} (hk : r.kind ≠ 0 → t.kind = r.kind) : oneF (some t) e full = endF (doneT t e) true full :=
 oneF_some f.rule f.h1 f.h2 (fun h => h.2 (hk h.1))
theorem FitE.makes (f : FitE e r) {full : Bool} (hm : r.makes = true) : oneF none e full = endF (doneT { zeroT with kind := r.kind } e) false full :=
 oneF_none f.rule f.h1 f.h2 (by rw [hm]; decide)
structure PutE (e : Eff) (kd : Int) : Prop where
 fit : ∃ r, FitE e r ∧ r.kind = kd ∧ r.makes = true
 done : ∀ t, ∃ t', doneT t e = (t', 0) ∧ t'.kind = t.kind ∧ countT t' ≠ 0 ∧ countT t' ≤ countT t + 1
theorem fate_puts (p : PutE e kd) (hl : S.length < 65536) (hf : ∀ t, findS S e.key = some t → t.kind = kd ∧ countT t < 65536) :
  ∃ t', fateS S e = .put t' ∧ t'.kind = kd ∧ countT t' ≤ ((findS S e.key).map countT).getD 0 + 1 := by
 obtain ⟨r, f, rk, rm⟩ := p.fit
 have hfull : decide (65536 ≤ S.length) = false := decide_eq_false (by omega)
 have fin : ∀ {t' : Thing} {b : Bool}, countT t' ≠ 0 → countT t' ≤ 65536 → endF (t', 0) b false = .put t' := fun {t' b} h0 h1 => by
  unfold endF
  rw [if_neg (fun h => h rfl), if_neg (fun h => h0 h.2), if_neg]
  rintro (h | ⟨_, h⟩)
  ·have h : 65536 < countT t' := h
   omega
  ·cases h
 unfold fateS
 rw [hfull]
 cases hg : findS S e.key with
 |none =>
  obtain ⟨t', h1, h2, h3, h4⟩ := p.done { zeroT with kind := r.kind }
  have h4 : countT t' ≤ 0 + 1 := h4
  refine ⟨t', ?_, by rw [h2]; exact rk, h4⟩
  rw [f.makes rm, h1]
  exact fin h3 (by omega)
 |some t =>
  obtain ⟨h5, h6⟩ := hf t hg
  obtain ⟨t', h1, h2, h3, h4⟩ := p.done t
  refine ⟨t', ?_, by rw [h2]; exact h5, h4⟩
  rw [f.is (fun _ => by rw [h5, rk]), h1]
  exact fin h3 (by omega)
theorem all_puts : ∀ {E : List Eff} {S : Space}, UpS S → S.length + E.length < 65536 → (∀ e ∈ E, PutE e kd ∧ e.key = key) → (∀ t, findS S key = some t → t.kind = kd ∧ countT t + E.length ≤ 65536) → ∃ S', allS S E = some S'
 |[], S, _, _, _, _ => ⟨S, rfl⟩
 |e :: E, S, hu, hl, hE, hf => by
  obtain ⟨p, hke⟩ := hE e (by simp)
  have hl : S.length + (E.length + 1) < 65536 := hl
  have hf : ∀ t, findS S key = some t → t.kind = kd ∧ countT t + (E.length + 1) ≤ 65536 := hf
  obtain ⟨t', h1, h2, h3⟩ := fate_puts (S := S) p (by omega) fun t ht => ⟨(hf t (by rw [← hke]; exact ht)).1, by have := (hf t (by rw [← hke]; exact ht)).2; omega⟩
  rw [hke] at h3
  have hlen := len_put (S := S) (key := key) (t := t')
  obtain ⟨S', h4⟩ := all_puts (E := E) (S := putS S key t') (up_putS hu) (by omega) (fun e' he' => hE e' (by simp [he'])) fun t ht => by
   rw [find_put hu, if_pos rfl] at ht
   cases ht
   refine ⟨h2, ?_⟩
   cases hg : findS S key with
   |none =>
    rw [hg] at h3
    have h3 : countT t' ≤ 0 + 1 := h3
    omega
   |some t =>
    rw [hg] at h3
    have h3 : countT t' ≤ countT t + 1 := h3
    have := (hf t hg).2
    omega
  refine ⟨S', ?_⟩
  simp only [allS]
  rw [h1, hke, if_pos (show (Fate.put t').num = 0 from rfl)]
  exact h4
theorem all_drops9 (hu : UpS S) (hk : key.size ≤ 1048576) : ∃ S', allS S (dropsS S key now) = some S' ∧ UpS S' ∧ S'.length ≤ S.length ∧ findS S' key = getS S key now := by
 unfold dropsS
 split
 ·rename_i hc
  obtain ⟨t, ht⟩ := Option.isSome_iff_exists.1 hc.1
  have hf := fate_gone ht hk
  refine ⟨dropS S key, by rw [all_one (by rw [hf]; rfl), hf]; rfl, up_dropS hu, len_drop, ?_⟩
  rw [find_drop hu, if_pos rfl]
  cases hg : getS S key now with
  |none => rfl
  |some t => rw [hg] at hc; exact absurd hc.2 (by simp)
 ·rename_i hc
  refine ⟨S, rfl, hu, Nat.le_refl _, ?_⟩
  cases hg : getS S key now with
  |some t => exact getS_find hg
  |none =>
   cases hf : findS S key with
   |none => rfl
   |some t => exact absurd ⟨by rw [hf]; rfl, by rw [hg]; rfl⟩ hc
end
section
variable {key n s : ByteArray} {z : Int}
theorem puts_head (hk : key.size ≤ 1048576) (hs : s.size ≤ 1048576) : PutE (headE key s) 3 :=
 ⟨⟨⟨false, true, false, 3, true, 191⟩, ⟨rfl, fun _ => rfl, (fun h => by cases h), fun _ => rfl, hk, by show noText.size ≤ _; decide, hs⟩, rfl, rfl⟩, fun t => by
  refine ⟨_, rfl, rfl, ?_, ?_⟩
  ·unfold countT; show t.pairs.length + (t.list.length + 1) + t.ranks.length ≠ 0; omega
  ·unfold countT; show t.pairs.length + (t.list.length + 1) + t.ranks.length ≤ _; omega⟩
theorem puts_tail (hk : key.size ≤ 1048576) (hs : s.size ≤ 1048576) : PutE (tailE key s) 3 :=
 ⟨⟨⟨false, true, false, 3, true, 193⟩, ⟨rfl, fun _ => rfl, (fun h => by cases h), fun _ => rfl, hk, by show noText.size ≤ _; decide, hs⟩, rfl, rfl⟩, fun t => by
  have e : (t.list ++ [s]).length = t.list.length + 1 := by simp
  refine ⟨_, rfl, rfl, ?_, ?_⟩
  ·unfold countT; show t.pairs.length + (t.list ++ [s]).length + t.ranks.length ≠ 0; omega
  ·unfold countT; show t.pairs.length + (t.list ++ [s]).length + t.ranks.length ≤ _; omega⟩
end
end Go.Proofs.YtjnijlnmbjjgpaaGreatDoor
namespace Go.Proofs.YtjnijlnmbjjgpaaGreatDoor
open Go Go.Sx C
section
variable {S : Space} {k n key s : ByteArray} {now kd items at_ : Int} {t : Thing} {e : Eff} {r : Rep} {E : List Eff} {A : List ByteArray} {ok : Bool} {f : Thing → Res}
def Got (S : Space) (now : Int) (kd : Int) (key : ByteArray) (t : Thing) : Prop := (getS S key now = none ∧ t = zeroT) ∨ (getS S key now = some t ∧ t.kind = kd)
theorem Got.count (s : S9 S) (g : Got S now kd key t) : countT t ≤ 6000 := by
 rcases g with ⟨_, rfl⟩ | ⟨h, _⟩
 ·exact Nat.zero_le _
 ·have h9 : T9 t := s _ (getS_mem h)
  have := h9.ps; have := h9.ls; have := h9.rs
  unfold countT
  omega
theorem Fine.kindly (h : ∀ t, Got S now kd key t → Fine S (f t)) : Fine S (kindly S now kd key f) := by
 unfold Proofs.YtjnijlnmbjjgpaaGreatDoor.kindly
 split
 ·rename_i hg
  exact h zeroT (.inl ⟨hg, rfl⟩)
 ·rename_i t hg
  exact Fine.ite (fun hk => h t (.inr ⟨hg, hk⟩)) fun _ => Fine.bad
theorem Fine.arg3 {f : ByteArray → ByteArray → ByteArray → Res} (h : ∀ x y z, Fine S (f x y z)) : Fine S (arg3 f A) := by
 unfold Proofs.YtjnijlnmbjjgpaaGreatDoor.arg3
 split
 ·exact h _ _ _
 ·exact Fine.bad
theorem Fine.numbered {f : Int → Res} (h : ∀ n, Fine S (f n)) : Fine S (numbered s f) := by
 unfold Proofs.YtjnijlnmbjjgpaaGreatDoor.numbered
 split
 ·exact h _
 ·exact Fine.bad
theorem fine_makes (f : Few S) (s : S9 S) (g : Got S now kd key t) (hq : r.k ≠ 2) (hE : key.size ≤ 1048576 → ok = true → ∀ e ∈ E, PutE e kd ∧ e.key = key) (hlen : E.length ≤ 100) : Fine S (makes S now key items ok r E) :=
 Fine.ite (fun hc => by
  have hl := f.len
  have hd := drops_len S key now
  obtain ⟨S1, h1, u1, l1, f1⟩ := all_drops9 (now := now) f.up hc.2.1
  obtain ⟨S2, h2⟩ := all_puts (kd := kd) (key := key) (E := E) u1 (by omega) (hE hc.2.1 hc.2.2) fun u hu => by
   rw [f1] at hu
   rcases g with ⟨hg, _⟩ | ⟨hg, hk⟩
   ·rw [hg] at hu; cases hu
   ·rw [hg] at hu
    cases hu
    have := Got.count s (.inr ⟨hg, hk⟩)
    exact ⟨hk, by omega⟩
  exact Fine.of hq (by rw [List.length_append]; omega) ⟨S2, all_then h1 h2⟩) fun _ => Fine.bad
theorem fate_stay {rl : Rule} {t' : Thing} (hf : findS S e.key = some t) (fit : FitE e rl) (hk : rl.kind ≠ 0 → t.kind = rl.kind) (hd : doneT t e = (t', 0)) (hc : countT t' ≤ 65536) : (fateS S e).num = 0 := by
 unfold fateS
 rw [hf, fit.is hk, hd]
 unfold endF
 rw [if_neg (fun h => h rfl)]
 by_cases h0 : (t', (0 : Int)).1.kind ≠ 1 ∧ countT (t', (0 : Int)).1 = 0
 ·rw [if_pos h0]; rfl
 ·rw [if_neg h0, if_neg]
  ·rfl
  ·rintro (h | ⟨h, _⟩)
   ·have h : 65536 < countT t' := h
    omega
   ·cases h
theorem small_of {l : List ByteArray} {x : ByteArray} (h : l.all small = true) (hx : x ∈ l) : x.size ≤ 1048576 := of_decide_eq_true (List.all_eq_true.1 h x hx)
theorem fine_push {mk : ByteArray → ByteArray → Eff} (f : Few S) (s : S9 S) (hp : ∀ key n, key.size ≤ 1048576 → n.size ≤ 1048576 → PutE (mk key n) 3 ∧ (mk key n).key = key) : ∀ {A : List ByteArray}, A.length ≤ 20 → Fine S (cPush S now mk A)
 |[], _ => Fine.bad
 |key :: l, hA => by
  have hl : l.length + 1 ≤ 20 := hA
  refine Fine.ite (fun hc => Fine.kindly fun t g => ?_) fun _ => Fine.bad
  refine fine_makes f s g (by show (3 : Int) ≠ 2; decide) (fun hk hok e he => ?_) (by rw [List.length_map]; omega)
  obtain ⟨p, hm, rfl⟩ := List.mem_map.1 he
  exact hp key p hk (small_of hok hm)
theorem fine_lpush (f : Few S) (s : S9 S) (hA : A.length ≤ 20) : Fine S (cPush S now headE A) := fine_push f s (fun _ _ hk hn => ⟨puts_head hk hn, rfl⟩) hA
theorem fine_rpush (f : Few S) (s : S9 S) (hA : A.length ≤ 20) : Fine S (cPush S now tailE A) := fine_push f s (fun _ _ hk hn => ⟨puts_tail hk hn, rfl⟩) hA
theorem got_some {i : Nat} {a : Int} (g : Got S now kd key t) (h : placeN t.list.length a = some i) : getS S key now = some t ∧ t.kind = kd := by
 rcases g with ⟨_, rfl⟩ | h
 ·have h : placeN 0 a = some i := h
  have := placeN_lt h
  omega
 ·exact h
theorem fine_pop {mk : ByteArray → Eff} {D : Thing → Thing} {rl : Rule} (f : Few S) (s : S9 S) (hrk : rl.kind = 3) (hkey : ∀ key, (mk key).key = key) (hfit : ∀ key, key.size ≤ 1048576 → FitE (mk key) rl) (hd : ∀ t key, doneT t (mk key) = (D t, 0)) (hle : ∀ t, countT (D t) ≤ countT t) : Fine S (cPop S now mk at_ A) :=
 Fine.arg1 fun key _ => Fine.kindly fun t g => by
  split
  ·rename_i i hi
   have hc := g.count s
   obtain ⟨hg, hk⟩ := got_some g hi
   have hfk := getS_find hg
   have hz : (fateS S (mk key)).num = 0 := fate_stay (t := t) (by rw [hkey]; exact hfk) (hfit key (f.keys.of hfk)) (fun _ => by rw [hk, hrk]) (hd t key) (by have := hle t; omega)
   exact Fine.of (by show (4 : Int) ≠ 2; decide) (by simp) ⟨_, all_one hz⟩
  ·exact Fine.none_ (by decide)
theorem fine_lpop (f : Few S) (s : S9 S) : Fine S (cPop S now unheadE at_ A) :=
 fine_pop (D := fun t => { t with list := t.list.tail }) (rl := ⟨false, false, false, 3, false, 194⟩) f s rfl (fun _ => rfl) (fun key hk => ⟨rfl, fun _ => rfl, fun _ => rfl, fun _ => rfl, hk, by show noText.size ≤ _; decide, by show noText.size ≤ _; decide⟩) (fun _ _ => rfl)
  (fun t => by unfold countT; show t.pairs.length + t.list.tail.length + t.ranks.length ≤ t.pairs.length + t.list.length + t.ranks.length; rw [List.length_tail]; omega)
theorem fine_rpop (f : Few S) (s : S9 S) : Fine S (cPop S now untailE at_ A) :=
 fine_pop (D := fun t => { t with list := t.list.dropLast }) (rl := ⟨false, false, false, 3, false, 195⟩) f s rfl (fun _ => rfl) (fun key hk => ⟨rfl, fun _ => rfl, fun _ => rfl, fun _ => rfl, hk, by show noText.size ≤ _; decide, by show noText.size ≤ _; decide⟩) (fun _ _ => rfl)
  (fun t => by unfold countT; show t.pairs.length + t.list.dropLast.length + t.ranks.length ≤ t.pairs.length + t.list.length + t.ranks.length; rw [List.length_dropLast]; omega)
theorem fine_llen : Fine S (cLlen S now A) := Fine.arg1 fun x _ => Fine.kindly fun t g => Fine.none_ (by show (3 : Int) ≠ 2; decide)
theorem fine_lindex : Fine S (cLindex S now A) := Fine.arg2 fun x y => Fine.numbered fun n => Fine.kindly fun t g => by
 split
 ·exact Fine.none_ (by show (4 : Int) ≠ 2; decide)
 ·exact Fine.none_ (by decide)
theorem fine_lrange : Fine S (cLrange S now A) := Fine.arg3 fun x y z => Fine.numbered fun n => Fine.numbered fun n => Fine.kindly fun t g => Fine.none_ (by show (5 : Int) ≠ 2; decide)
theorem fine_lset (f : Few S) (s : S9 S) : Fine S (cLset S now A) := Fine.arg3 fun key x u => Fine.numbered fun n => Fine.kindly fun t g => by
 split
 ·rename_i i hi
  have hc := g.count s
  obtain ⟨hg, hk⟩ := got_some g hi
  have hil := placeN_lt hi
  refine Fine.ite (fun hc9 => ?_) fun _ => Fine.bad
  have hd := drops_len S key now
  obtain ⟨S1, h1, u1, l1, f1⟩ := all_drops9 (now := now) f.up hc9.2.1
  rw [hg] at f1
  have hz : (fateS S1 (atE key i u)).num = 0 := fate_stay (t := t) (rl := ⟨false, true, true, 3, false, 196⟩) f1
   ⟨rfl, fun _ => rfl, (fun h => by cases h), (fun h => by cases h), hc9.2.1, by show noText.size ≤ _; decide, of_decide_eq_true hc9.2.2⟩ (fun _ => hk)
   (show (if (0 : Int) ≤ i ∧ (i : Int) < t.list.length then ({ t with list := t.list.set (i : Int).toNat u }, (0 : Int)) else (t, 4)) = _ from if_pos ⟨by omega, by omega⟩) (by unfold countT at hc ⊢; show t.pairs.length + (t.list.set (i : Int).toNat u).length + t.ranks.length ≤ _; rw [List.length_set]; omega)
  exact Fine.of (by decide) (by rw [List.length_append]; simp; omega) ⟨_, all_then h1 (all_one hz)⟩
 ·exact Fine.bad
end
end Go.Proofs.YtjnijlnmbjjgpaaGreatDoor
namespace Go.Proofs.YtjnijlnmbjjgpaaGreatDoor
open Go Go.Sx C
theorem cNaN_calls {h : Heap} {s : ByteArray} : CallsH Tryz.prog 306 [.string s] h (Ret fun r h' => r = .bool false ∧ h' = h) := by
 refine f306_calls (by simp) ?_
 exact Ai (fun h1 => absurd rfl h1) (fun _ => ⟨rfl, rfl⟩)
theorem sNaN_calls {h : Heap} {s : ByteArray} : CallsH Tryz.prog 278 [.string s] h (Ret fun r h' => r = .bool false ∧ h' = h) := by
 refine f278_calls (by simp) ?_
 exact Ai (fun h1 => absurd rfl h1) (fun _ => ⟨rfl, rfl⟩)
theorem cLess_calls {h : Heap} {x y : ByteArray} : CallsH Tryz.prog 277 [.string x, .string y] h (Ret fun r h' => r = .bool (sless x y) ∧ h' = h) := by
 refine f277_calls (by simp) ?_
 refine callp cNaN_calls ?_
 refine Ai (fun hl => ?_) (fun hl => ?_)
 ·have e : sless x y = true := hl
  exact ⟨by rw [e]; rfl, rfl⟩
 ·have e : sless x y = false := by
   cases hb : sless x y with
   |false => rfl
   |true => exact absurd hb hl
  exact ⟨by rw [e]; rfl, rfl⟩
theorem bsO_calls {h : Heap} {v : Value} {l : List ByteArray} {tgt : ByteArray} (hv : SL encS h v l) (hl : l.length < 4611686018427387904) (hs : l.Pairwise fun a b => sless a b = true) :
  CallsH Tryz.prog 235 [v, .string tgt] h (Ret fun r h' => (∃ k : Nat, r = .tuple #[.int .i64 k, .bool (thereL l tgt)]) ∧ h' = h) := by
 obtain ⟨a, c, rfl, hlc⟩ := hv.form
 have hm : ∀ i j (hj : j < l.length) (hi : i ≤ j), sless l[j] tgt = true → sless (l[i]'(by omega)) tgt = true := fun i j hj hi hb => by
  by_cases e : i = j
  ·subst e; exact hb
  ·exact sless_trans (List.pairwise_iff_getElem.1 hs i j (by omega) hj (by omega)) hb
 refine f235_calls (by simp) ?_
 refine loop_intro (fun p : Nat × Nat => [(0, .slice a l.length c), (1, .string tgt), (6, .int .i64 l.length), (7, .int .i64 p.1), (8, .int .i64 p.2)])
  (fun p h' => p.1 ≤ p.2 ∧ p.2 ≤ l.length ∧ h' = h ∧ (∀ i (_ : i < p.1) (h : i < l.length), sless l[i] tgt = true) ∧ (∀ i (_ : p.2 ≤ i) (h : i < l.length), sless l[i] tgt = false)) (fun p => p.2 - p.1) (0, l.length)
  ⟨rfl, rfl, rfl, rfl, rfl, trivial⟩ ⟨Nat.zero_le _, Nat.le_refl _, rfl, by intro i hi; omega, by intro i hi hh; omega⟩ ?_
 rintro ⟨i, j⟩ h1 ⟨hij, hjl, hc, hlow, hhigh⟩
 have hc := hc.symm
 subst hc
 simp only at hij hjl hlow hhigh
 refine Ai rfl (Ai (fun hlt => ?_) (fun hlt => ?_))
 ·have hlt : i < j := by omega
  refine Ai rfl (fun z hz => ?_)
  have hz := add_in hz (by omega) (by omega)
  subst hz
  intro z hz
  rw [wrapU (by omega) (by omega)] at hz
  subst hz
  refine Ai rfl (fun z hz => ?_)
  have hz : z = ((i : Int) + j) / 2 := by
   have : z = ((i : Int) + j).fdiv (2 ^ 1) := hz
   rw [this, Int.fdiv_eq_ediv_of_nonneg _ (by decide)]
   rfl
  subst hz
  intro z hz
  rw [wrap_in (by omega) (by omega)] at hz
  obtain ⟨m, hm1⟩ : ∃ m : Nat, m = (i + j) / 2 := ⟨_, rfl⟩
  have hz : z = (m : Int) := by omega
  subst hz
  have him : i ≤ m := by omega
  have hmj : m < j := by omega
  have hml : m < l.length := by omega
  obtain ⟨b, o, rfl⟩ := hv.addr (by omega)
  have hcs := hv.cells encS_len (i := m) (x := l[m]) (by simp [hml])
  refine Ai (by omega) (Ai (by omega) (Ei _ (Ai (hcs 0 _ rfl) ?_)))
  refine callp cLess_calls ?_
  cases hb : sless l[m] tgt with
  |true =>
   refine Ai rfl (fun y hy => ?_)
   have hy := add_in hy (by omega) (by omega)
   have hy : y = ((m + 1 : Nat) : Int) := by omega
   subst hy
   refine Ai rfl (Ei (m + 1, j) (Ai ?_ (Ai ?_ ?_)))
   ·exact ⟨rfl, rfl, rfl, rfl, rfl, trivial⟩
   ·refine ⟨by simp only; omega, hjl, rfl, fun q hq hql => ?_, hhigh⟩
    exact hm q m hml (by simp only at hq; omega) hb
   ·simp only; omega
  |false =>
   refine Ai rfl (Ei (i, m) (Ai ?_ (Ai ?_ ?_)))
   ·exact ⟨rfl, rfl, rfl, rfl, rfl, trivial⟩
   ·refine ⟨him, by simp only; omega, rfl, hlow, fun q hq hql => ?_⟩
    cases hbb : sless l[q] tgt with
    |false => rfl
    |true => rw [hm m q hql (by simp only at hq; omega) hbb] at hb; cases hb
   ·simp only; omega
 ·have hij2 : i = j := by omega
  subst hij2
  have hno : (∀ (hi : i < l.length), l[i] ≠ tgt) → thereL l tgt = false := fun hne => decide_eq_false fun hm9 => by
   obtain ⟨q, hq, e⟩ := List.getElem_of_mem hm9
   by_cases h1 : q < i
   ·have := hlow q h1 hq
    rw [e, sless_irrefl] at this
    cases this
   ·by_cases h2 : q = i
    ·subst h2; exact hne hq e
    ·have h3 := List.pairwise_iff_getElem.1 hs i q (by omega) hq (by omega)
     rw [e] at h3
     have h4 := hhigh i (Nat.le_refl _) (by omega)
     rw [h3] at h4
     cases h4
  refine Ai rfl (Ai (fun hin => ?_) (fun hin => ?_))
  ·have hin : i < l.length := by omega
   obtain ⟨b, o, rfl⟩ := hv.addr (by omega)
   have hcs := hv.cells encS_len (i := i) (x := l[i]) (by simp [hin])
   refine Ai (by omega) (Ai (by omega) (Ei _ (Ai (hcs 0 _ rfl) ?_)))
   refine Ai (fun he => ?_) (fun hne => ?_)
   ·have e : thereL l tgt = true := decide_eq_true (by rw [← show l[i] = tgt from he]; exact List.getElem_mem hin)
    exact ⟨⟨i, by rw [e]; rfl⟩, rfl⟩
   ·refine Ai (by omega) (Ai (by omega) (Ei _ (Ai (hcs 0 _ rfl) ?_)))
    refine callp sNaN_calls ?_
    exact ⟨⟨i, by rw [hno fun _ => hne]; rfl⟩, rfl⟩
  ·exact ⟨⟨i, by rw [hno fun h9 => by omega]; rfl⟩, rfl⟩
section
variable {h0 h h1 h' : Heap} {ab kb sb mb c bs bt b1 b2 : Nat} {now : Int} {av lv pv lw rv fv : Value} {key s n : ByteArray} {t : Thing} {is : Bool} {A pre : List ByteArray} {L : List Eff} {M : List En} {T : List Nat} {p : ByteArray → Bool} {Z : Heap → Prop}
theorem thC (hE : (cE ab kb now av key t is pv lw rv lv L).at h) : SL encP h pv t.pairs ∧ SL encS h lw t.list ∧ SL encR h rv t.ranks := by
 obtain ⟨_, _, hT, _⟩ := hE
 obtain ⟨p, l, r, e, h1, h2, h3⟩ := hT
 simp only [cellsT, List.cons.injEq, and_true, true_and] at e
 obtain ⟨rfl, rfl, rfl⟩ := e
 exact ⟨h1, h2, h3⟩
theorem member9_calls (hE : (cE ab kb now av key t is pv lw rv lv L).at h) (hl : t.list.length < 4611686018427387904) (hs : t.list.Pairwise fun a b => sless a b = true) :
  CallsH Tryz.prog 172 [ptr ab, .string n] h (Ret fun r h' => r = .bool (thereL t.list n) ∧ Chg [] h h') := by
 have sp := (thC hE).2.1
 obtain ⟨pa, pc, rfl, _⟩ := sp.form
 refine f172_calls (by simp) ?_
 refine Ei _ (Ai (cell_blk hE.1 rfl) ?_)
 refine call_ret (bsO_calls sp hl hs) ?_
 rintro r h2 ⟨⟨k, rfl⟩, e⟩
 have e := e.symm
 subst e
 exact ⟨rfl, Chg.refl _⟩
def TC (ab kb : Nat) (now : Int) (av : Value) (t : Thing) (is : Bool) (pv lw rv : Value) (Z : Heap → Prop) (fv : Value) (p : ByteArray → Bool) : Prop :=
 ∃ g fi cap, fv = .func (.func g) fi cap ∧ ∀ {h : Heap} {s key : ByteArray} {lv : Value} {L : List Eff}, (cE ab kb now av key t is pv lw rv lv L).at h → Z h → CallsH Tryz.prog g (fi.toList ++ [.string s] ++ cap.toList) h (Ret fun u h' => u = .bool (p s) ∧ Chg [] h h')
theorem tc_member (hl : t.list.length < 4611686018427387904) (hs : t.list.Pairwise fun a b => sless a b = true) : TC ab kb now av t is pv lw rv (fun _ => True) (.func (.func 172) #[ptr ab] #[]) (thereL t.list) :=
 ⟨_, _, _, rfl, fun {_h _s _key _lv _L} hE _ => member9_calls hE hl hs⟩
def frE (bs mb bt : Nat) (fv : Value) (pre : List ByteArray) : En :=
 .x [bs, mb, bt] (fun h => Blk h bs [.map (some mb)] ∧ (∃ es c, MapB h mb es c ∧ CM es pre) ∧ Blk h bt [fv] ∧ bs ≠ mb ∧ bt ≠ mb)
  (fun _ _ _ hc hn ⟨h1, ⟨es, c, h2, h3⟩, h4, h5, h6⟩ => ⟨h1.chg hc (hn _ (by simp)), ⟨es, c, h2.chg hc (hn _ (by simp)), h3⟩, h4.chg hc (hn _ (by simp)), h5, h6⟩)
  (fun _ ⟨h1, ⟨_, _, h2, _⟩, h4, _⟩ b hb => by
   simp at hb
   rcases hb with rfl | rfl | rfl
   ·exact h1.lt
   ·exact h2.lt
   ·exact h4.lt)
theorem fresh9_calls {f : Fn} {fi cap : Array Value} : CallsH Tryz.prog 152 [.func f fi cap] h (Ret fun r h' => (∃ bs mb bt, r = .func (.func 228) #[] #[ptr bs, ptr bt] ∧ (frE bs mb bt (.func f fi cap) []).at h' ∧ ∀ b ∈ [bs, mb, bt], h.size ≤ b) ∧ Chg [] h h') := by
 refine f152_calls (by simp) ?_
 intro bt h1 g1
 have w := (St.start h).new g1
 intro mb h2 g2
 have w := w.newm g2
 intro bs h3 g3
 have w := w.new g3
 refine w.st1 0 rfl rfl rfl rfl fun h4 w => ?_
 have n1 := g1.id; have n2 := g2.id; have n3 := g3.id
 have z1 := g1.size; have z2 := g2.size; have z3 := g3.size
 refine ⟨⟨bs, mb, bt, rfl, ⟨w.get 0 rfl, ⟨[], 0, w.get 1 rfl, CM.nil⟩, w.get 2 rfl, by omega, by omega⟩, fun b hb => ?_⟩, w.chg⟩
 simp at hb
 rcases hb with rfl | rfl | rfl <;> omega
theorem _root_.Go.Sx.St.fresh {K : Value → Heap → Prop} {Qp : List PanicEntry → Heap → Prop} (w : St T h0 h M) (i j : Nat) (hi : M[i]? = some (frE bs mb bt fv pre)) (hj : M[j]? = some (cE ab kb now av key t is pv lw rv lv L)) (hij : i ≠ j)
  (tc : TC ab kb now av t is pv lw rv Z fv p) (hZ : ∀ h', Chg [mb] h h' → Z h') (hpre : pre.length < 4611686018427387904)
  (k : ∀ h', St T h0 h' (M.set i (frE bs mb bt fv (pre ++ [s]))) → K (.bool (!p s && decide (s ∉ pre))) h') : CallsH Tryz.prog 228 [.string s, ptr bs, ptr bt] h (after K Qp) := by
 obtain ⟨B1, ⟨es, c, hM, cm⟩, B2, n1, n2⟩ := w.get i hi
 have hE := w.get j hj
 have hap : mb ∉ (cE ab kb now av key t is pv lw rv lv L).fp := w.apart i j _ _ hi hj hij mb (by simp [frE, En.fp])
 have hcl : cntB s pre ≤ pre.length := cntB_le
 have main : CallsH Tryz.prog 228 [.string s, ptr bs, ptr bt] h (Ret fun u h' => u = .bool (!p s && decide (s ∉ pre)) ∧ (frE bs mb bt fv (pre ++ [s])).at h' ∧ Chg [mb] h h') := by
  obtain ⟨g, fi, cap, rfl, hg⟩ := tc
  refine f228_calls (by simp) ?_
  refine Ei _ (Ai (cell_blk B1 rfl) ?_)
  -- behind the map's turn
  have rest : ∀ {h4 : Heap} {es' : List MapEntry} {c' : Nat}, PutO h h4 mb (.map ⟨es'⟩ c') → CM es' (pre ++ [s]) →
    swp Tryz.prog (.seq (.ops f228r2) .ret) (retQ [.t 4] (Ret fun u h' => u = .bool (!p s && decide (s ∉ pre)) ∧ (frE bs mb bt (.func (.func g) fi cap) (pre ++ [s])).at h' ∧ Chg [mb] h h')) (mk [(0, .string s), (1, ptr bs), (2, ptr bt)]) [] h4 := fun {h4 es' c'} p4 cm' => by
   have c4 : Chg [mb] h h4 := p4.chg
   have M4 : MapB h4 mb es' c' := p4.blk
   have B14 := B1.chg c4 (by simp [n1])
   have B24 := B2.chg c4 (by simp [n2])
   have hfr : ∀ {h5}, Chg [] h4 h5 → (frE bs mb bt (.func (.func g) fi cap) (pre ++ [s])).at h5 := fun c5 => ⟨B14.chg c5 (by simp), ⟨es', c', M4.chg c5 (by simp), cm'⟩, B24.chg c5 (by simp), n1, n2⟩
   obtain ⟨j2, e2⟩ := cm'.hit
   refine Ei _ (Ai (cell_blk B14 rfl) ?_)
   refine Ai rfl (Ei es' (Ei c' (Ai M4 (Ai cm'.fits ?_))))
   rw [e2]
   refine Ai rfl (Ai (fun h1 => ?_) (fun h1 => ?_))
   ·have hc0 : cntB s pre = 0 := by omega
    have hno : s ∉ pre := fun hm => by have := cntB_pos hm; omega
    refine Ei _ (Ai (cell_blk B24 rfl) ?_)
    have hE4 : (cE ab kb now av key t is pv lw rv lv L).at h4 := En.chg hE c4 (fun b hb hm => by simp at hm; subst hm; exact hap hb)
    refine call_ret (hg hE4 (hZ h4 c4)) ?_
    rintro _ h5 ⟨rfl, c5⟩
    refine ⟨?_, hfr c5, c4.trans c5 (by simp) (by simp)⟩
    rw [decide_eq_true hno, Bool.and_true]
    rfl
   ·have hin : s ∈ pre := by
     rcases Decidable.em (s ∈ pre) with h9 | h9
     ·exact h9
     ·exact absurd (by rw [cntB_zero h9]; rfl) h1
    refine ⟨?_, hfr (Chg.refl _), c4⟩
    rw [decide_eq_false (fun h9 => h9 hin), Bool.and_false]
    rfl
  rcases cm.cnt s with ⟨e1, hn⟩ | ⟨j1, e1, hm⟩
  ·refine Ai rfl (Ei es (Ei c (Ai hM (Ai cm.fits ?_))))
   rw [e1]
   refine Ai rfl (fun z hz => ?_)
   have hz : z = 1 := by have := add_in hz (by omega) (by omega); omega
   subst hz
   refine Ai rfl (Ei es (Ei c (Ai hM (Ai cm.fits ?_))))
   rw [e1]
   intro h4 p4
   exact cut_at [(0, .string s), (1, ptr bs), (2, ptr bt)] ⟨rfl, rfl, rfl, trivial⟩ (rest p4 (cm.put0 (c := c) e1 hn rfl))
  ·refine Ai rfl (Ei es (Ei c (Ai hM (Ai cm.fits ?_))))
   rw [e1]
   refine Ai rfl (fun z hz => ?_)
   have hz := add_in hz (by omega) (by omega)
   subst hz
   refine Ai rfl (Ei es (Ei c (Ai hM (Ai cm.fits ?_))))
   rw [e1]
   intro h4 p4
   exact cut_at [(0, .string s), (1, ptr bs), (2, ptr bt)] ⟨rfl, rfl, rfl, trivial⟩ (rest p4 (cm.put1 e1 rfl))
 refine call_ret main ?_
 rintro _ h2 ⟨rfl, hf, c2⟩
 exact k h2 (w.set i hi c2 (fun b hb => .inl (by simp at hb; simp [frE, En.fp, hb])) hf (fun b hb => .inl hb))
end
end Go.Proofs.YtjnijlnmbjjgpaaGreatDoor
namespace Go.Proofs.YtjnijlnmbjjgpaaGreatDoor
open Go Go.Sx C
theorem newL_app {th : ByteArray → Bool} : ∀ {a b pre : List ByteArray}, newL th pre (a ++ b) = newL th pre a ++ newL th (pre ++ a) b
 |[], b, pre => by simp [newL]
 |x :: a, b, pre => by
  have ih := newL_app (th := th) (a := a) (b := b) (pre := pre ++ [x])
  have e : pre ++ [x] ++ a = pre ++ x :: a := by simp
  rw [e] at ih
  simp only [List.cons_append, newL, ih, List.append_assoc]
theorem newL_snoc {th : ByteArray → Bool} {l : List ByteArray} {q : Nat} (hq : q < l.length) : newL th [] (l.take (q + 1)) = newL th [] (l.take q) ++ (if (!th l[q] && decide (l[q] ∉ l.take q)) = true then [l[q]] else []) := by
 rw [List.take_succ_eq_append_getElem hq, newL_app]
 simp [newL]
theorem newL_len {th : ByteArray → Bool} : ∀ {l pre : List ByteArray}, (newL th pre l).length ≤ l.length
 |[], _ => Nat.le_refl _
 |x :: l, pre => by
  have := newL_len (th := th) (l := l) (pre := pre ++ [x])
  simp only [newL]
  split <;> simp <;> omega
theorem newL_cnt {th : ByteArray → Bool} {l : List ByteArray} {q : Nat} {b : Bool} (hq : q < l.length) (hb : b = (!th l[q] && decide (l[q] ∉ l.take q))) : (newL th [] (l.take (q + 1))).length = (newL th [] (l.take q)).length + (if b = true then 1 else 0) := by
 rw [newL_snoc hq, ← hb]
 cases b <;> simp
theorem small_of9 {l : List ByteArray} {x : ByteArray} (h : l.all small = true) (hx : x ∈ l) : x.size ≤ 1048576 := of_decide_eq_true (List.all_eq_true.1 h x hx)
section
variable {h0 h h1 h2 h' : Heap} {ab kb sb mb c b1 b2 bs bt mb2 : Nat} {now op kd : Int} {av lv pv lw rv fv v : Value} {key why : ByteArray} {t : Thing} {is : Bool} {A l pre : List ByteArray} {L : List Eff} {m : List KI} {S : Space} {M : List En} {T : List Nat} {res : Res} {th : ByteArray → Bool} {Z : Heap → Prop}
theorem cons_of {n : Int} (hn : 1 ≤ n) (hb : n ≤ A.length) : ∃ k0 l, A = k0 :: l := by
 cases A with
 |nil => simp at hb; omega
 |cons k0 l => exact ⟨k0, l, rfl⟩
theorem no_away {f : ByteArray → List ByteArray → Thing → Res} {g : List ByteArray → Res} (h : NoB S now A 2 65536 kd why) (hg : ∀ key l, g (key :: l) = if 1 ≤ l.length ∧ l.length < 65536 then kindly S now kd key (f key l) else .error wArgs) (hn : g [] = .error wArgs) : g A = .error why := by
 match A, h with
 |[], .inl ⟨_, e⟩ => rw [hn, e]
 |[], .inr ⟨hb, _⟩ => simp at hb
 |key :: l, .inl ⟨hb, e⟩ =>
  rw [hg, e, if_neg]
  intro hh
  exact hb ⟨by simp; omega, by simp; omega⟩
 |key :: l, .inr ⟨hb, k0, hk0, hk, e⟩ =>
  cases hk0
  simp at hb
  rw [hg, e, if_pos ⟨by omega, by omega⟩, kindly_no hk]
end
end Go.Proofs.YtjnijlnmbjjgpaaGreatDoor
namespace Go.Proofs.YtjnijlnmbjjgpaaGreatDoor
open Go Go.Sx C
section
variable {h0 h h1 h2 h' : Heap} {ab kb sb mb c b2 : Nat} {now op at_ : Int} {av : Value} {A : List ByteArray} {m : List KI} {S : Space} {res : Res}
theorem pass9 {M : List En} {key : ByteArray} {t : Thing} {is : Bool} {pv lw rv lv : Value} {E : List Eff} {q : Rep} {ra : Option Addr} {rn rc : Nat} (x : As h0 h (c0 ab kb now av)) (w : St (c0 ab kb now av).fp h h' M) (i j : Nat)
  (hi : M[i]? = some (.b b2 [.int .i64 q.k, .int .i64 q.i, .string q.s, .slice ra rn rc])) (hj : M[j]? = some (cE ab kb now av key t is pv lw rv lv E)) (sl : SL encQ h2 (.slice ra rn rc) q.l) (fr : ∀ b ∈ ablk ra, h1.size ≤ b) (kc : Chg [b2] h2 h') (hb : b2 < h1.size) (hz : h.size ≤ h1.size)
  (he : res = .ok (q, E)) : ∃ vs, vs.length = 4 ∧ Cells h' b2 0 vs ∧ Cmd9 h0 h ab kb now av res (.returned (.agg ⟨vs⟩)) h' :=
 ⟨_, rfl, cells_blk (w.get i hi), q, E, key, t, is, pv, lw, rv, lv, he, ⟨ra, rn, rc, rfl, sl.chg kc (fun b hb2 => by have := fr b hb2; simp; omega), fun b hb2 => by have := fr b hb2; omega⟩, x.out w j hj⟩
theorem llen9 (p : P9 h0 kb sb mb c m S av A) (x : As h0 h (c0 ab kb now av)) : CallsH Tryz.prog 91 [ptr ab] h (Cmd9 h0 h ab kb now av (cLlen S now A)) := by
 refine f91_calls (by simp) ?_
 intro b2 h1 g1
 have w := x.st.new g1
 refine sub9_go (i := 1) x w rfl (fun x => begin9_calls p (by decide) x) ?_ ?_
 rotate_left
 ·rintro why h2 hB c2
  exact bad9 (NoB.a1 (f := fun _ t => .ok (numR t.list.length, [])) hB) c2
 rintro _ h2 _ ⟨hb, k0, hk0, hk, p2, w2, r2, rfl⟩ w
 obtain ⟨k9, rfl⟩ := one_arg hb
 cases hk0
 obtain ⟨la, lc, rfl, _⟩ := (w.thc 1 rfl).2.1.form
 refine w.ldc 1 rfl rfl ?_
 refine w.callv number9_calls fun h3 w => ?_
 refine w.st1 0 rfl rfl rfl rfl fun h4 w => ?_
 have he : cLlen S now [k0] = _ := (show cLlen S now [k0] = kindly S now 3 k0 (fun t => .ok (numR t.list.length, [])) from rfl).trans (kindly_ok hk)
 exact fin9 x w 0 1 rfl rfl he
theorem pop9 (p : P9 h0 kb sb mb c m S av A) (hs9 : S9 S) (hat : In64 at_) (x : As h0 h (c0 ab kb now av)) : CallsH Tryz.prog 167 [ptr ab, .int .i64 op, .int .i64 at_] h (Cmd9 h0 h ab kb now av (cPop S now (fun key => ⟨op, key, noText, noText, 0⟩) at_ A)) := by
 refine f167_calls (by simp) ?_
 intro b6 h1 g1
 have w := x.st.new g1
 refine sub9_go (i := 1) x w rfl (fun x => begin9_calls p (by decide) x) ?_ ?_
 rotate_left
 ·rintro why h2 hB c2
  exact bad9 (NoB.a1 (f := fun key t => match placeN t.list.length at_ with
   |some i => .ok (textR (t.list[i]?.getD noText), [⟨op, key, noText, noText, 0⟩])
   |none => .ok (nilR, [])) hB) c2
 rintro _ h2 _ ⟨hb, k0, hk0, hk, p2, w2, r2, rfl⟩ w
 obtain ⟨k9, rfl⟩ := one_arg hb
 cases hk0
 have ht := (hs9.get k0 now).ls
 have he : cPop S now (fun key => ⟨op, key, noText, noText, 0⟩) at_ [k0] = _ := (show cPop S now (fun key => ⟨op, key, noText, noText, 0⟩) at_ [k0] = kindly S now 3 k0 (fun t => match placeN t.list.length at_ with
  |some i => .ok (textR (t.list[i]?.getD noText), [⟨op, k0, noText, noText, 0⟩])
  |none => .ok (nilR, [])) from rfl).trans (kindly_ok hk)
 generalize (getS S k0 now).getD zeroT = t at *
 obtain ⟨la, lc, rfl, _⟩ := (w.thc 1 rfl).2.1.form
 refine w.ldc 1 rfl rfl ?_
 refine callp (place_calls (by omega) hat) ?_
 cases hp : placeN t.list.length at_ with
 |none =>
  rw [hp] at he
  refine w.st1 0 rfl rfl rfl rfl fun h3 w => ?_
  exact fin9 x w 0 1 rfl rfl he
 |some i =>
  have hil := placeN_lt hp
  rw [hp] at he
  refine sub9_go (i := 1) x w rfl (fun x => take9_calls ⟨op, noText, noText, noText, 0⟩ x (by simp)) ?_ ?_
  rotate_left
  ·rintro why h3 hB
   exact hB.elim
  rintro _ h3 _ ⟨lv3, rfl⟩ w
  obtain ⟨b, o, rfl⟩ := (w.thc 1 rfl).2.1.addr (by omega)
  refine w.ldc 1 rfl rfl ?_
  refine sl_ix (w.thc 1 rfl).2.1 i rfl (List.getElem?_eq_getElem hil) ?_
  refine w.callv text9_calls fun h4 w => ?_
  refine w.st1 0 rfl rfl rfl rfl fun h5 w => ?_
  refine fin9 x w 0 1 rfl rfl ?_
  rw [he]
  simp [hil, textR]
theorem lpop9 (p : P9 h0 kb sb mb c m S av A) (hs9 : S9 S) (x : As h0 h (c0 ab kb now av)) : CallsH Tryz.prog 89 [ptr ab] h (Cmd9 h0 h ab kb now av (cPop S now unheadE 0 A)) := by
 refine f89_calls (by simp) ?_
 intro b2 h1 g1
 have w := x.st.new g1
 refine call_out9 (pop9 p hs9 ⟨by decide, by decide⟩ (x.out w 1 rfl).1) ?_ (fun why h2 ⟨he, c2⟩ => bad9 he (w.gone 1 rfl c2 (fun _ hb => .inl hb)).chg)
 rintro _ h2 ⟨q, E, key, t, is, pv, lw, rv, lv, he, ⟨ra, rn, rc, rfl, sl, fr⟩, _, o2⟩
 have w := w.own 1 rfl o2
 refine w.st2 0 rfl rfl rfl rfl fun h3 w k3 => ?_
 exact pass9 x w 0 1 rfl rfl sl fr k3 (by have := g1.id; have := g1.size; omega) g1.chg.size he
theorem rpop9 (p : P9 h0 kb sb mb c m S av A) (hs9 : S9 S) (x : As h0 h (c0 ab kb now av)) : CallsH Tryz.prog 90 [ptr ab] h (Cmd9 h0 h ab kb now av (cPop S now untailE (-1) A)) := by
 refine f90_calls (by simp) ?_
 intro b2 h1 g1
 have w := x.st.new g1
 refine call_out9 (pop9 p hs9 ⟨by decide, by decide⟩ (x.out w 1 rfl).1) ?_ (fun why h2 ⟨he, c2⟩ => bad9 he (w.gone 1 rfl c2 (fun _ hb => .inl hb)).chg)
 rintro _ h2 ⟨q, E, key, t, is, pv, lw, rv, lv, he, ⟨ra, rn, rc, rfl, sl, fr⟩, _, o2⟩
 have w := w.own 1 rfl o2
 refine w.st2 0 rfl rfl rfl rfl fun h3 w k3 => ?_
 exact pass9 x w 0 1 rfl rfl sl fr k3 (by have := g1.id; have := g1.size; omega) g1.chg.size he
theorem lindex9 (p : P9 h0 kb sb mb c m S av A) (hs9 : S9 S) (hl : LaidN h0) (hA : ∀ a ∈ A, a.size < 281474976710656) (x : As h0 h (c0 ab kb now av)) : CallsH Tryz.prog 92 [ptr ab] h (Cmd9 h0 h ab kb now av (cLindex S now A)) := by
 refine f92_calls (by simp) ?_
 intro b2 h1 g1
 have w := x.st.new g1
 refine sub9_go (i := 1) x w rfl (fun x => many9_calls p (by decide) x) ?_ ?_
 rotate_left
 ·rintro why h2 ⟨hB, rfl⟩ c2
  exact bad9 (arg2_bad hB) c2
 rintro _ h2 _ ⟨hb, k0, hk0, rfl⟩ w
 obtain ⟨k9, s, rfl⟩ := two_arg hb
 cases hk0
 refine sub9_go (i := 1) x w rfl (fun x => num9_calls (j := 1) p x hl rfl (hA s (by simp))) ?_ ?_
 rotate_left
 ·rintro why h3 ⟨hB, rfl⟩ c3
  refine bad9 ?_ c3
  show numbered s _ = _
  unfold numbered
  rw [hB]
 rintro _ h3 _ ⟨n, hn, rfl, rfl⟩ w
 have hnn : ∀ f, numbered s f = f n := fun f => by unfold numbered; rw [hn]
 refine sub9_go (i := 1) x w rfl (fun x => of9_calls p x) ?_ ?_
 rotate_left
 ·rintro why h4 ⟨hB, rfl⟩ c4
  exact bad9 ((hnn _).trans (kindly_no hB)) c4
 rintro _ h4 _ ⟨hk, p2, w2, r2, rfl⟩ w
 have ht := (hs9.get k0 now).ls
 have he : cLindex S now [k0, s] = _ := (hnn _).trans (kindly_ok hk)
 generalize (getS S k0 now).getD zeroT = t at *
 obtain ⟨la, lc, rfl, _⟩ := (w.thc 1 rfl).2.1.form
 refine w.ldc 1 rfl rfl ?_
 refine callp (place_calls (by omega) (numOf_in hn)) ?_
 cases hp : placeN t.list.length n with
 |none =>
  rw [hp] at he
  refine w.st1 0 rfl rfl rfl rfl fun h3 w => ?_
  exact fin9 x w 0 1 rfl rfl he
 |some i =>
  have hil := placeN_lt hp
  rw [hp] at he
  obtain ⟨b, o, rfl⟩ := (w.thc 1 rfl).2.1.addr (by omega)
  refine w.ldc 1 rfl rfl ?_
  refine sl_ix (w.thc 1 rfl).2.1 i rfl (List.getElem?_eq_getElem hil) ?_
  refine w.callv text9_calls fun h4 w => ?_
  refine w.st1 0 rfl rfl rfl rfl fun h5 w => ?_
  refine fin9 x w 0 1 rfl rfl ?_
  rw [he]
  simp [hil, textR]
theorem lrange9 (p : P9 h0 kb sb mb c m S av A) (hs9 : S9 S) (hl : LaidN h0) (hA : ∀ a ∈ A, a.size < 281474976710656) (x : As h0 h (c0 ab kb now av)) : CallsH Tryz.prog 93 [ptr ab] h (Cmd9 h0 h ab kb now av (cLrange S now A)) := by
 refine f93_calls (by simp) ?_
 intro b2 h1 g1
 have w := x.st.new g1
 refine sub9_go (i := 1) x w rfl (fun x => many9_calls p (by decide) x) ?_ ?_
 rotate_left
 ·rintro why h2 ⟨hB, rfl⟩ c2
  exact bad9 (arg3_bad hB) c2
 rintro _ h2 _ ⟨hb, k0, hk0, rfl⟩ w
 obtain ⟨k9, s, u, rfl⟩ := three_arg hb
 cases hk0
 refine sub9_go (i := 1) x w rfl (fun x => num9_calls (j := 1) p x hl rfl (hA s (by simp))) ?_ ?_
 rotate_left
 ·rintro why h3 ⟨hB, rfl⟩ c3
  refine bad9 ?_ c3
  show numbered s _ = _
  unfold numbered
  rw [hB]
 rintro _ h3 _ ⟨n, hn, rfl, rfl⟩ w
 have hnn : ∀ f, numbered s f = f n := fun f => by unfold numbered; rw [hn]
 refine sub9_go (i := 1) x w rfl (fun x => num9_calls (j := 2) p x hl rfl (hA u (by simp))) ?_ ?_
 rotate_left
 ·rintro why h3 ⟨hB, rfl⟩ c3
  refine bad9 ((hnn _).trans ?_) c3
  show numbered u _ = _
  unfold numbered
  rw [hB]
 rintro _ h3 _ ⟨n2, hn2, rfl, rfl⟩ w
 have hnn2 : ∀ f, numbered u f = f n2 := fun f => by unfold numbered; rw [hn2]
 refine sub9_go (i := 1) x w rfl (fun x => of9_calls p x) ?_ ?_
 rotate_left
 ·rintro why h4 ⟨hB, rfl⟩ c4
  exact bad9 ((hnn _).trans ((hnn2 _).trans (kindly_no hB))) c4
 rintro _ h4 _ ⟨hk, p2, w2, r2, rfl⟩ w
 have ht := (hs9.get k0 now).ls
 have he : cLrange S now [k0, s, u] = _ := (hnn _).trans ((hnn2 _).trans (kindly_ok hk))
 generalize (getS S k0 now).getD zeroT = t at *
 obtain ⟨la, lc, rfl, hlc⟩ := (w.thc 1 rfl).2.1.form
 refine w.ldc 1 rfl rfl ?_
 refine callp (span_calls (by omega) (numOf_in hn) (numOf_in hn2)) ?_
 have hsp := spanN_le t.list.length n n2
 refine w.ldc 1 rfl rfl ?_
 refine Ai (by omega) (Ai (by omega) (Ai (by omega) ?_))
 refine sl_slc encS_len (w.thc 1 rfl).2.1 hsp.1 hsp.2 fun v1 hv1 => ?_
 have hsv := hv1 _ (w.thc 1 rfl).2.1
 refine call_ret (listStr_calls hsv (by simp; omega)) ?_
 rintro _ h5 ⟨⟨ra, rn, rc, rfl, ol, fr⟩, c5⟩
 have hz := w.size
 have w := w.add (e := .o encQ 4 (.slice ra rn rc) _) c5 ol fr
 refine w.st1 1 rfl rfl rfl rfl fun h6 w => ?_
 refine finl9 x w 1 2 0 rfl rfl rfl (fun b hb => by have := fr b hb; omega) ?_
 rw [he]
 simp [listR, qs, spanL]
 rfl
theorem lset9 (p : P9 h0 kb sb mb c m S av A) (hs9 : S9 S) (hl : LaidN h0) (hA : ∀ a ∈ A, a.size < 281474976710656) (x : As h0 h (c0 ab kb now av)) : CallsH Tryz.prog 94 [ptr ab] h (Cmd9 h0 h ab kb now av (cLset S now A)) := by
 refine f94_calls (by simp) ?_
 intro b2 h1 g1
 have w := x.st.new g1
 refine sub9_go (i := 1) x w rfl (fun x => many9_calls p (by decide) x) ?_ ?_
 rotate_left
 ·rintro why h2 ⟨hB, rfl⟩ c2
  exact bad9 (arg3_bad hB) c2
 rintro _ h2 _ ⟨hb, k0, hk0, rfl⟩ w
 obtain ⟨k9, s, u, rfl⟩ := three_arg hb
 cases hk0
 refine sub9_go (i := 1) x w rfl (fun x => num9_calls (j := 1) p x hl rfl (hA s (by simp))) ?_ ?_
 rotate_left
 ·rintro why h3 ⟨hB, rfl⟩ c3
  refine bad9 ?_ c3
  show numbered s _ = _
  unfold numbered
  rw [hB]
 rintro _ h3 _ ⟨n, hn, rfl, rfl⟩ w
 have hnn : ∀ f, numbered s f = f n := fun f => by unfold numbered; rw [hn]
 refine sub9_go (i := 1) x w rfl (fun x => of9_calls p x) ?_ ?_
 rotate_left
 ·rintro why h4 ⟨hB, rfl⟩ c4
  exact bad9 ((hnn _).trans (kindly_no hB)) c4
 rintro _ h4 _ ⟨hk, p2, w2, r2, rfl⟩ w
 have ht := (hs9.get k0 now).ls
 have he : cLset S now [k0, s, u] = _ := (hnn _).trans (kindly_ok hk)
 generalize (getS S k0 now).getD zeroT = t at *
 obtain ⟨la, lc, rfl, _⟩ := (w.thc 1 rfl).2.1.form
 refine w.ldc 1 rfl rfl ?_
 refine callp (place_calls (by omega) (numOf_in hn)) ?_
 cases hp : placeN t.list.length n with
 |none =>
  rw [hp] at he
  exact must9_no (bad9 he w.chg)
 |some i =>
  have hil := placeN_lt hp
  rw [hp] at he
  refine must9_yes fun _ => ?_
  obtain ⟨b, o, cc, rfl⟩ := p.argF (by simp)
  refine w.ldc 1 rfl rfl ?_
  refine p.ix (x.base w) 2 rfl rfl ?_
  refine w.ldc 1 rfl rfl ?_
  refine sub9_go (i := 1) x w rfl (fun x => put9_calls p ⟨11, noText, noText, u, i⟩ x (by simp) (by have := hA k0 (by simp); omega) (by show noText.size < _; decide) (by have := hA u (by simp); show u.size < _; omega)) ?_ ?_
  rotate_left
  ·rintro why h5 ⟨hB, rfl⟩ c5
   exact bad9 (he.trans (mkNo9 (fun hh => hB ⟨hh.1, hh.2.1, by show noText.size ≤ _; decide, of_decide_eq_true hh.2.2⟩))) c5
  rintro _ h5 _ ⟨hfit, lv5, rfl⟩ w
  refine w.st1 0 rfl rfl rfl rfl fun h6 w => ?_
  exact fin9 x w 0 1 rfl rfl (he.trans (mkOk9 ⟨hfit.1, hfit.2.1, decide_eq_true hfit.2.2.2⟩))
theorem NoB.ak {kd : Int} {why : ByteArray} {f : ByteArray → List ByteArray → Thing → Res} {g : List ByteArray → Res} (h : NoB S now A 2 65536 kd why) (hg : ∀ key l, g (key :: l) = if 1 ≤ l.length ∧ l.length < 65536 then kindly S now kd key (f key l) else .error wArgs) (hn : g [] = .error wArgs) : g A = .error why := by
 match A, h with
 |[], .inl ⟨_, e⟩ => rw [hn, e]
 |[], .inr ⟨hb, _⟩ => simp at hb
 |key :: l, .inl ⟨hb, e⟩ =>
  rw [hg, e, if_neg]
  intro hh
  exact hb ⟨by simp; omega, by simp; omega⟩
 |key :: l, .inr ⟨hb, k0, hk0, hk, e⟩ =>
  cases hk0
  simp at hb
  rw [hg, e, if_pos ⟨by omega, by omega⟩, kindly_no hk]
set_option maxHeartbeats 1000000 in
theorem push9 (p : P9 h0 kb sb mb c m S av A) (hs9 : S9 S) (hA : ∀ a ∈ A, a.size < 281474976710656) (x : As h0 h (c0 ab kb now av)) : CallsH Tryz.prog 166 [ptr ab, .int .i64 op] h (Cmd9 h0 h ab kb now av (cPush S now (fun key s => ⟨op, key, noText, s, 0⟩) A)) := by
 refine f166_calls (by simp) ?_
 intro b4 h1 g1
 have w := x.st.new g1
 refine sub9_go (i := 1) x w rfl (fun x => begin9_calls p (by decide) x) ?_ ?_
 rotate_left
 ·rintro why h2 hB c2
  exact bad9 (NoB.ak (f := fun key l t => makes S now key (t.list.length + l.length) (l.all small) (numR (t.list.length + l.length)) (l.map fun s => ⟨op, key, noText, s, 0⟩)) hB (fun _ _ => rfl) rfl) c2
 rintro _ h2 _ ⟨hb, k0, hk0, hk, p2, w2, r2, rfl⟩ w
 obtain ⟨k9, l, rfl⟩ : ∃ k0 l, A = k0 :: l := by
  cases A with
  |nil => simp at hb
  |cons k0 l => exact ⟨k0, l, rfl⟩
 cases hk0
 have hll : 1 ≤ l.length ∧ l.length < 65536 := by simp at hb; exact ⟨by omega, by omega⟩
 have ht := (hs9.get k0 now).ls
 have hk0 := hA k0 (by simp)
 have he : cPush S now (fun key s => ⟨op, key, noText, s, 0⟩) (k0 :: l) = makes S now k0 (((getS S k0 now).getD zeroT).list.length + l.length) (l.all small) (numR (((getS S k0 now).getD zeroT).list.length + l.length)) (l.map fun s => ⟨op, k0, noText, s, 0⟩) :=
  (if_pos hll).trans (kindly_ok hk)
 generalize (getS S k0 now).getD zeroT = t at *
 obtain ⟨aa, ac, rfl⟩ := p.argN
 obtain ⟨la, lc, rfl, _⟩ := (w.thc 1 rfl).2.1.form
 refine w.ldc 1 rfl rfl ?_
 have hac := (p.args _ (x.base w)).len.2
 refine Ai (by decide) (Ai (by simp only [List.length_cons]; omega) (Ai (by omega) ?_))
 refine sl_slc (lo := 1) (hi := (k0 :: l).length) encS_len (p.args _ (x.base w)) (by simp) (Nat.le_refl _) fun v1 hv1 => ?_
 have e1 : ((k0 :: l).drop 1).take ((k0 :: l).length - 1) = l := by simp
 rw [e1] at hv1
 have hsl : ∀ {h'}, Chg [] h0 h' → SL encS h' v1 l := fun hc => hv1 _ (p.args _ hc)
 clear hv1
 obtain ⟨va, vc, rfl, _⟩ := (hsl (Chg.refl _)).form
 obtain ⟨vb, vo, rfl⟩ := (hsl (Chg.refl _)).addr (by omega)
 have hD : ∀ q (hq : q < l.length), (l.map fun s => (⟨op, k0, noText, s, 0⟩ : Eff))[q]? = some { (⟨op, noText, noText, l[q], 0⟩ : Eff) with key := k0 } := fun q hq => by simp [hq]
 have hDl : (l.map fun s => (⟨op, k0, noText, s, 0⟩ : Eff)).length = l.length := List.length_map _
 have hDn : (l.map fun s => (⟨op, k0, noText, s, 0⟩ : Eff)) ≠ [] := fun e => by rw [e] at hDl; simp at hDl; omega
 generalize hDg : (l.map fun s => (⟨op, k0, noText, s, 0⟩ : Eff)) = D at *
 refine loop_intro (fun q : Nat × Value => [(0, ptr ab), (1, .int .i64 op), (4, ptr b4), (13, .slice (some ⟨vb, vo, none⟩) l.length vc), (14, .int .i64 l.length), (15, .int .i64 q.1)])
  (fun q h' => (q.1 ≤ l.length ∧ (0 < q.1 → (t.list.length + q.1 : Int) ≤ 65536 ∧ k0.size ≤ 1048576) ∧ (l.take q.1).all small = true) ∧ St (c0 ab kb now (.slice aa (k0 :: l).length ac)).fp h h' [.b b4 [.int .i64 0, .int .i64 0, .string ⟨#[]⟩, .slice none 0 0], cE ab kb now (.slice aa (k0 :: l).length ac) k0 t (getS S k0 now).isSome p2 (.slice la t.list.length lc) r2 q.2 (accE S k0 now D q.1)])
  (fun q => l.length - q.1) (0, nilV) ⟨rfl, rfl, rfl, rfl, rfl, rfl, trivial⟩ ⟨⟨Nat.zero_le _, fun h9 => absurd h9 (by simp), rfl⟩, w⟩ ?_
 rintro ⟨q, lv⟩ h3 ⟨⟨hq, hq1, hq2⟩, w⟩
 have hq : q ≤ l.length := hq
 refine Ai rfl (Ai (fun hlt => ?_) (fun hge => ?_))
 ·have hlt : q < l.length := by omega
  obtain ⟨s, hs⟩ : ∃ s, s = l[q] := ⟨_, rfl⟩
  have hsm : s ∈ l := by rw [hs]; exact List.getElem_mem hlt
  have hsz := hA s (by simp [hsm])
  have hD := hD q hlt
  rw [← hs] at hD
  refine sl_ix (s := s) (hsl (x.base w)) q rfl (by rw [hs]; exact List.getElem?_eq_getElem hlt) ?_
  refine w.ldc 1 rfl rfl ?_
  refine Ai rfl (fun z hz => ?_)
  have hz : z = (t.list.length : Int) + q := hz.trans (wrap_in (by omega) (by omega))
  subst hz
  refine Ai rfl (fun z hz => ?_)
  have hz : z = (t.list.length : Int) + q + 1 := hz.trans (wrap_in (by omega) (by omega))
  subst hz
  have hal := acc_len (S := S) (key := k0) (now := now) D q (by omega)
  refine sub9_go (i := 1) x w rfl (fun x => put9_calls (items := (t.list.length : Int) + q + 1) p ⟨op, noText, noText, s, 0⟩ x (by simp only; omega) (by omega) (by show noText.size < _; decide) (by show s.size < _; omega)) ?_ ?_
  rotate_left
  ·rintro why h5 ⟨hB, rfl⟩ c5
   refine bad9 (he.trans (mkNo9 ?_)) c5
   rintro ⟨m1, m2, m3⟩
   exact hB ⟨by omega, m2, by show noText.size ≤ _; decide, of_decide_eq_true (List.all_eq_true.1 m3 s hsm)⟩
  rintro _ h5 _ ⟨hfit, lv5, rfl⟩ w
  rw [acc_put hD] at w
  refine Ai rfl (fun z hz => ?_)
  have hz := add_in hz (by omega) (by omega)
  subst hz
  refine Ai rfl (Ei (q + 1, lv5) (Ai ⟨rfl, rfl, rfl, rfl, rfl, rfl, trivial⟩ (Ai ⟨⟨hlt, fun _ => ⟨?_, hfit.2.1⟩, ?_⟩, w⟩ (by simp only; omega))))
  ·have := hfit.1
   push_cast
   omega
  ·rw [List.take_succ_eq_append_getElem hlt, ← hs, List.all_append, hq2]
   simp [small]
   exact hfit.2.2.2
 ·have hkl : q = l.length := by omega
  subst hkl
  refine w.ldc 1 rfl rfl ?_
  refine w.ldc 1 rfl rfl ?_
  refine Ai rfl (fun z hz => ?_)
  have hz : z = (t.list.length : Int) + ((k0 :: l).length : Nat) := hz.trans (wrap_in (by simp; omega) (by simp; omega))
  subst hz
  refine Ai rfl (fun z hz => ?_)
  have hz : z = (t.list.length : Int) + l.length := hz.trans ((wrap_in (by simp; omega) (by simp; omega)).trans (by simp; omega))
  subst hz
  refine w.callv number9_calls fun h4 w => ?_
  refine w.st1 0 rfl rfl rfl rfl fun h5 w => ?_
  have e9 : accE S k0 now D l.length = dropsS S k0 now ++ D := by rw [← hDl]; exact acc_all hDn
  rw [e9] at w
  obtain ⟨m1, m2⟩ := hq1 (by show 0 < l.length; omega)
  have hq2 : (l.take l.length).all small = true := hq2
  rw [List.take_length] at hq2
  exact fin9 x w 0 1 rfl rfl (he.trans (mkOk9 ⟨m1, m2, hq2⟩))
theorem lpush9 (p : P9 h0 kb sb mb c m S av A) (hs9 : S9 S) (hA : ∀ a ∈ A, a.size < 281474976710656) (x : As h0 h (c0 ab kb now av)) : CallsH Tryz.prog 87 [ptr ab] h (Cmd9 h0 h ab kb now av (cPush S now headE A)) := by
 refine f87_calls (by simp) ?_
 intro b2 h1 g1
 have w := x.st.new g1
 refine call_out9 (push9 p hs9 hA (x.out w 1 rfl).1) ?_ (fun why h2 ⟨he, c2⟩ => bad9 he (w.gone 1 rfl c2 (fun _ hb => .inl hb)).chg)
 rintro _ h2 ⟨q, E, key, t, is, pv, lw, rv, lv, he, ⟨ra, rn, rc, rfl, sl, fr⟩, _, o2⟩
 have w := w.own 1 rfl o2
 refine w.st2 0 rfl rfl rfl rfl fun h3 w k3 => ?_
 exact pass9 x w 0 1 rfl rfl sl fr k3 (by have := g1.id; have := g1.size; omega) g1.chg.size he
theorem rpush9 (p : P9 h0 kb sb mb c m S av A) (hs9 : S9 S) (hA : ∀ a ∈ A, a.size < 281474976710656) (x : As h0 h (c0 ab kb now av)) : CallsH Tryz.prog 88 [ptr ab] h (Cmd9 h0 h ab kb now av (cPush S now tailE A)) := by
 refine f88_calls (by simp) ?_
 intro b2 h1 g1
 have w := x.st.new g1
 refine call_out9 (push9 p hs9 hA (x.out w 1 rfl).1) ?_ (fun why h2 ⟨he, c2⟩ => bad9 he (w.gone 1 rfl c2 (fun _ hb => .inl hb)).chg)
 rintro _ h2 ⟨q, E, key, t, is, pv, lw, rv, lv, he, ⟨ra, rn, rc, rfl, sl, fr⟩, _, o2⟩
 have w := w.own 1 rfl o2
 refine w.st2 0 rfl rfl rfl rfl fun h3 w k3 => ?_
 exact pass9 x w 0 1 rfl rfl sl fr k3 (by have := g1.id; have := g1.size; omega) g1.chg.size he
end
end Go.Proofs.YtjnijlnmbjjgpaaGreatDoor
namespace Go.Proofs.YtjnijlnmbjjgpaaGreatDoor
open Go Go.Sx C
theorem newL_at {th : ByteArray → Bool} {l : List ByteArray} {q : Nat} (hq : q < l.length) (hb : (!th l[q] && decide (l[q] ∉ l.take q)) = true) : (newL th [] l)[(newL th [] (l.take q)).length]? = some l[q] := by
 have e1 := newL_app (th := th) (a := l.take (q + 1)) (b := l.drop (q + 1)) (pre := [])
 rw [List.take_append_drop, newL_snoc hq, if_pos hb] at e1
 rw [e1, List.append_assoc, List.getElem?_append_right (Nat.le_refl _), Nat.sub_self]
 rfl
section
variable {h0 h h1 h2 h' : Heap} {ab kb sb mb c b1 b2 bs bt mb2 : Nat} {now op kd : Int} {av lv pv lw rv fv v : Value} {key why : ByteArray} {t : Thing} {is : Bool} {A l pre : List ByteArray} {L : List Eff} {m : List KI} {S : Space} {M : List En} {T : List Nat} {res : Res} {th : ByteArray → Bool} {Z : Heap → Prop}
theorem set_sorted (hi : InS S) (hk : okK 4 (getS S key now) = true) : ((getS S key now).getD zeroT).list.Pairwise fun a b => sless a b = true := by
 cases hg : getS S key now with
 |none => exact List.Pairwise.nil
 |some t =>
  rw [hg] at hk
  exact (hi _ (getS_mem hg)).good.ls (of_decide_eq_true hk)
theorem NoB.as {f : ByteArray → List ByteArray → Thing → Res} {g : List ByteArray → Res} (h : NoB S now A 2 65536 kd why) (hg : ∀ key l, g (key :: l) = if 1 ≤ l.length ∧ l.length < 65536 then kindly S now kd key (f key l) else .error wArgs) (hn : g [] = .error wArgs) : g A = .error why := no_away h hg hn
set_option maxHeartbeats 1000000 in
theorem sadd9 (p : P9 h0 kb sb mb c m S av A) (hs9 : S9 S) (hi : InS S) (hA : ∀ a ∈ A, a.size < 281474976710656) (x : As h0 h (c0 ab kb now av)) : CallsH Tryz.prog 95 [ptr ab] h (Cmd9 h0 h ab kb now av (cSadd S now A)) := by
 refine f95_calls (by simp) ?_
 intro b2 h1 g1
 have w := x.st.new g1
 refine sub9_go (i := 1) x w rfl (fun x => begin9_calls p (by decide) x) ?_ ?_
 rotate_left
 ·rintro why h2 hB c2
  exact bad9 (NoB.as (f := fun key l t => if newL (thereL t.list) [] l = [] then .ok (numR 0, []) else makes S now key (t.list.length + (newL (thereL t.list) [] l).length) ((newL (thereL t.list) [] l).all small) (numR (newL (thereL t.list) [] l).length) ((newL (thereL t.list) [] l).map (addE key))) hB (fun _ _ => rfl) rfl) c2
 rintro _ h2 _ ⟨hb, k0, hk0, hk, p2, w2, r2, rfl⟩ w
 obtain ⟨k9, l, rfl⟩ := cons_of (by decide) hb.1
 cases hk0
 obtain ⟨ba, oa, ac, rfl⟩ := p.argF (by simp)
 have hlc : (k0 :: l).length = l.length + 1 := rfl
 have hc9 : 1 ≤ l.length ∧ l.length < 65536 := ⟨by omega, by omega⟩
 have htl := (hs9.get k0 now).ls
 have hso := set_sorted hi hk
 have hk9 := hA k0 (by simp)
 have he : cSadd S now (k0 :: l) = _ := (if_pos hc9).trans (kindly_ok hk)
 generalize (getS S k0 now).getD zeroT = t at *
 obtain ⟨la, lc, rfl, _⟩ := (w.thc 1 rfl).2.1.form
 obtain ⟨ns, hns⟩ : ∃ ns, ns = newL (thereL t.list) [] l := ⟨_, rfl⟩
 obtain ⟨D, hDe⟩ : ∃ D, D = ns.map (addE k0) := ⟨_, rfl⟩
 have he : cSadd S now (k0 :: l) = if ns = [] then .ok (numR 0, []) else makes S now k0 (t.list.length + ns.length) (ns.all small) (numR ns.length) D := by rw [he, hDe, hns]
 have hDl : D.length = ns.length := by rw [hDe]; exact List.length_map _
 have hnsl : ns.length ≤ l.length := by rw [hns]; exact newL_len
 refine call_ret fresh9_calls ?_
 rintro _ h5 ⟨⟨bs, mb2, bt, rfl, hf, hfb⟩, c5⟩
 have w := w.add (e := frE bs mb2 bt (.func (.func 172) #[ptr ab] #[]) []) c5 hf (fun b hb => hfb b (by simpa [frE, En.fp] using hb))
 refine w.ldc 2 rfl rfl ?_
 have hac := (p.args _ (x.base w)).len.2
 refine Ai (by decide) (Ai (by simp only [List.length_cons]; omega) (Ai (by omega) ?_))
 refine sl_slc (lo := 1) (hi := (k0 :: l).length) encS_len (p.args _ (x.base w)) (by simp) (Nat.le_refl _) fun v1 hv1 => ?_
 have e1 : ((k0 :: l).drop 1).take ((k0 :: l).length - 1) = l := by simp
 rw [e1] at hv1
 have hsl : ∀ {h'}, Chg [] h0 h' → SL encS h' v1 l := fun hc => hv1 _ (p.args _ hc)
 clear hv1
 obtain ⟨va, vc, rfl, _⟩ := (hsl (Chg.refl _)).form
 obtain ⟨vb, vo, rfl⟩ := (hsl (Chg.refl _)).addr (by omega)
 refine loop_intro (fun q : Nat × Nat × Value => [(0, ptr ab), (2, ptr b2), (3, .int .i64 q.2.1), (4, .func (.func 228) #[] #[ptr bs, ptr bt]), (16, .slice (some ⟨vb, vo, none⟩) l.length vc), (17, .int .i64 l.length), (18, .int .i64 q.1)])
  (fun q h' => (q.1 ≤ l.length ∧ q.2.1 = (newL (thereL t.list) [] (l.take q.1)).length ∧ q.2.1 ≤ ns.length ∧ (0 < q.2.1 → ((t.list.length : Int) + q.2.1 ≤ 65536 ∧ k0.size ≤ 1048576)) ∧ (newL (thereL t.list) [] (l.take q.1)).all small = true) ∧
   St (c0 ab kb now (.slice (some ⟨ba, oa, none⟩) (k0 :: l).length ac)).fp h h' [frE bs mb2 bt (.func (.func 172) #[ptr ab] #[]) (l.take q.1), .b b2 [.int .i64 0, .int .i64 0, .string ⟨#[]⟩, .slice none 0 0],
    cE ab kb now (.slice (some ⟨ba, oa, none⟩) (k0 :: l).length ac) k0 t (getS S k0 now).isSome p2 (.slice la t.list.length lc) r2 q.2.2 (accE S k0 now D q.2.1)])
  (fun q => l.length - q.1) (0, 0, nilV) ⟨rfl, rfl, rfl, rfl, rfl, rfl, rfl, trivial⟩ ⟨⟨Nat.zero_le _, rfl, Nat.zero_le _, fun h9 => absurd h9 (by simp), rfl⟩, w⟩ ?_
 rintro ⟨q, n, lv⟩ h6 ⟨⟨hq, hn0, hnn, hfits, hsm⟩, w⟩
 replace hq : q ≤ l.length := hq
 replace hn0 : n = (newL (thereL t.list) [] (l.take q)).length := hn0
 replace hnn : n ≤ ns.length := hnn
 replace hfits : 0 < n → ((t.list.length : Int) + n ≤ 65536 ∧ k0.size ≤ 1048576) := hfits
 replace hsm : (newL (thereL t.list) [] (l.take q)).all small = true := hsm
 refine Ai rfl (Ai (fun hlt => ?_) (fun hge => ?_))
 ·have hlt : q < l.length := by omega
  have htk := List.take_succ_eq_append_getElem hlt
  obtain ⟨s, hs⟩ : ∃ s, s = l[q] := ⟨_, rfl⟩
  rw [← hs] at htk
  have hsl9 : s ∈ l := by rw [hs]; exact List.getElem_mem hlt
  have hsz := hA s (by simp [hsl9])
  refine sl_ix (s := s) (hsl (x.base w)) q rfl (by rw [hs]; exact List.getElem?_eq_getElem hlt) ?_
  refine w.fresh 0 2 rfl rfl (by decide) (tc_member (by omega) hso) (fun _ _ => trivial) (by rw [List.length_take]; omega) fun h7 w => ?_
  rw [← htk] at w
  obtain ⟨bb, hbb⟩ : ∃ bb, bb = (!thereL t.list s && decide (s ∉ l.take q)) := ⟨_, rfl⟩
  have hsn := newL_snoc (th := thereL t.list) hlt
  rw [← hs, ← hbb] at hsn
  have hcnt := newL_cnt (th := thereL t.list) hlt (b := bb) (by rw [← hs]; exact hbb)
  rw [← hbb]
  cases bb with
  |true =>
   have hat := newL_at (th := thereL t.list) hlt (by rw [← hs]; exact hbb.symm)
   rw [← hs, ← hns, ← hn0] at hat
   have hnlt : n < ns.length := (List.getElem?_eq_some_iff.1 hat).1
   have hsns : s ∈ ns := List.mem_of_getElem? hat
   have hD : D[n]? = some { (⟨12, noText, s, noText, 0⟩ : Eff) with key := k0 } := by rw [hDe, List.getElem?_map, hat]; rfl
   have hcnt : (newL (thereL t.list) [] (l.take (q + 1))).length = n + 1 := by rw [hcnt, hn0]; rfl
   have hal := acc_len (S := S) (key := k0) (now := now) D n (by omega)
   have hne : ns ≠ [] := fun e => by rw [e] at hnlt; simp at hnlt
   refine Ai rfl (fun z hz => ?_)
   have hz := add_in hz (by simp only; omega) (by simp only; omega)
   subst hz
   refine w.ldc 2 rfl rfl ?_
   refine Ai rfl (fun z hz => ?_)
   have hz : z = (t.list.length : Int) + (n + 1 : Nat) := hz.trans (wrap_in (by simp only; omega) (by simp only; omega))
   subst hz
   refine sub9_go (i := 2) x w rfl (fun x => put9_calls p ⟨12, noText, s, noText, 0⟩ x (by simp only; omega) (by omega) (by show s.size < _; omega) (by show noText.size < _; decide)) ?_ ?_
   rotate_left
   ·rintro why h8 ⟨hB, rfl⟩ c8
    refine bad9 (he.trans ((if_neg hne).trans (mkNo9 ?_))) c8
    rintro ⟨m1, m2, m3⟩
    exact hB ⟨by omega, m2, small_of9 m3 hsns, by show noText.size ≤ _; decide⟩
   rintro _ h8 _ ⟨hfit, lv8, rfl⟩ w
   rw [acc_put hD] at w
   refine Ai rfl (fun z hz => ?_)
   have hz := add_in hz (by simp only; omega) (by simp only; omega)
   subst hz
   refine Ai rfl (Ei (q + 1, n + 1, lv8) (Ai ⟨rfl, rfl, rfl, rfl, rfl, rfl, rfl, trivial⟩ (Ai ⟨⟨hlt, by rw [hcnt], hnlt, fun _ => ⟨?_, hfit.2.1⟩, ?_⟩, w⟩ (by simp only; omega))))
   ·have := hfit.1
    push_cast at this ⊢
    omega
   ·rw [hsn, if_pos rfl, List.all_append, hsm]
    simp [small]
    exact hfit.2.2.1
  |false =>
   have hcnt : (newL (thereL t.list) [] (l.take (q + 1))).length = n := by rw [hcnt, hn0]; rfl
   refine Ai rfl (fun z hz => ?_)
   have hz := add_in hz (by simp only; omega) (by simp only; omega)
   subst hz
   exact Ai rfl (Ei (q + 1, n, lv) (Ai ⟨rfl, rfl, rfl, rfl, rfl, rfl, rfl, trivial⟩ (Ai ⟨⟨hlt, by rw [hcnt], hnn, hfits, by rw [hsn, if_neg (by decide), List.append_nil]; exact hsm⟩, w⟩ (by simp only; omega))))
 ·have hkl : q = l.length := by omega
  subst hkl
  rw [List.take_length, ← hns] at hn0 hsm
  refine w.callv number9_calls fun h7 w => ?_
  refine w.st1 1 rfl rfl rfl rfl fun h8 w => ?_
  subst hn0
  refine fin9 x w 1 2 rfl rfl ?_
  by_cases hne : ns = []
  ·rw [he, if_pos hne]
   have hD0 : D = [] := List.eq_nil_of_length_eq_zero (by rw [hDl, hne]; rfl)
   rw [hD0, hne]
   rfl
  ·have hD9 : D ≠ [] := fun e => hne (List.eq_nil_of_length_eq_zero (by rw [← hDl, e]; rfl))
   have hpos : 0 < ns.length := List.length_pos_iff.2 hne
   rw [he, if_neg hne, mkOk9 ⟨(hfits hpos).1, (hfits hpos).2, hsm⟩]
   have := acc_all (S := S) (key := k0) (now := now) hD9
   rw [hDl] at this
   rw [show accE S k0 now D (l.length, ns.length, lv).2.1 = dropsS S k0 now ++ D from this]
   rfl
end
end Go.Proofs.YtjnijlnmbjjgpaaGreatDoor
namespace Go.Proofs.YtjnijlnmbjjgpaaGreatDoor.K5
open Go Go.Sx Go.Proofs.YtjnijlnmbjjgpaaGreatDoor C
def TabH (h : Heap) : Prop := ∀ i < 64, ∃ v : Int, 0 ≤ v ∧ v ≤ 255 ∧ cell h 3 i = some (.int .u8 v)
end Go.Proofs.YtjnijlnmbjjgpaaGreatDoor.K5
namespace Go.Proofs.YtjnijlnmbjjgpaaGreatDoor.K5
open Go Go.Sx Go.Proofs.YtjnijlnmbjjgpaaGreatDoor C
end Go.Proofs.YtjnijlnmbjjgpaaGreatDoor.K5
namespace Go.Proofs.YtjnijlnmbjjgpaaGreatDoor.K5
open Go Go.Sx Go.Proofs.YtjnijlnmbjjgpaaGreatDoor C
theorem TabH.chg {S : List Nat} {h h' : Heap} (ht : TabH h) (hc : Chg S h h') (hn : 3 ∉ S) : TabH h' := fun i hi =>
 let ⟨v, h0, h1, h2⟩ := ht i hi
 ⟨v, h0, h1, cell_chg h2 hc hn⟩
end Go.Proofs.YtjnijlnmbjjgpaaGreatDoor.K5
namespace Go.Proofs.YtjnijlnmbjjgpaaGreatDoor.K5
open Go Go.Sx Go.Proofs.YtjnijlnmbjjgpaaGreatDoor C
end Go.Proofs.YtjnijlnmbjjgpaaGreatDoor.K5
namespace Go.Proofs.YtjnijlnmbjjgpaaGreatDoor
open Go Go.Sx C
namespace K5
end K5
section
variable {h0 h h1 h2 h' : Heap} {ab kb sb mb c b1 b2 bs bt mb2 : Nat} {now op kd : Int} {av lv pv lw rv fv v : Value} {key why n s : ByteArray} {t : Thing} {is : Bool} {A l pre : List ByteArray} {L : List Eff} {m : List KI} {S : Space} {M : List En} {T : List Nat} {res : Res} {th : ByteArray → Bool} {Z : Heap → Prop}
theorem tab9 (ht : K5.TabH h) (hc : Chg [] h h') : K5.TabH h' := ht.chg hc (by simp)
end
end Go.Proofs.YtjnijlnmbjjgpaaGreatDoor
namespace Go.Proofs.YtjnijlnmbjjgpaaGreatDoor
open Go Go.Sx C
namespace SI
end SI
section
variable {ms : List MapEntry} {c : Nat} {ks : List ByteArray} {f : ByteArray → Nat} {k : ByteArray}
end
section
variable {h0 h h1 h2 h' : Heap} {ab kb sb mb c b1 b2 : Nat} {now : Int} {av : Value} {A l : List ByteArray} {m : List KI} {S : Space}
end
end Go.Proofs.YtjnijlnmbjjgpaaGreatDoor
namespace Go.Proofs.YtjnijlnmbjjgpaaGreatDoor
open Go Go.Sx C
theorem s9_of {l k : List RX} (nv : NVast l) (hk : ofX [] l = some k) (hr : ∀ x ∈ l, ∀ r ∈ x.thing.ranks, In64 r.score) : S9 (k.map RX.pr) := by
 obtain ⟨_, h2, _⟩ := ofX_ok List.Pairwise.nil hk
 intro p hp
 obtain ⟨x, hx, rfl⟩ := List.mem_map.1 hp
 have hm : x ∈ l := by simpa using (h2 x).1 hx
 have s := nv.small x hm
 have a := s.p; have b := s.l; have c := s.r
 exact ⟨by show x.thing.pairs.length ≤ _; omega, by show x.thing.list.length ≤ _; omega, by show x.thing.ranks.length ≤ _; omega, fun p hp => (s.ps p hp).2, hr x hm, s.rs, s.ls⟩
def itRT (x : Int × Int × ByteArray) : RT := .mk x.1 x.2.1 x.2.2 (.slice none 0 0) []
theorem sl_rt {h : Heap} {v : Value} {l : List (Int × Int × ByteArray)} (hs : SL encQ h v l) : SL encT h v (l.map itRT) := by
 obtain ⟨a, c, rfl, h1, h2⟩ := hs
 refine ⟨a, c, by rw [List.length_map], by rw [List.length_map]; exact h1, ?_⟩
 rw [List.length_map, List.flatMap_map]
 exact h2
theorem oks_rt {h : Heap} : ∀ {l : List (Int × Int × ByteArray)}, RT.oks h (l.map itRT)
 |[] => trivial
 |x :: l => ⟨⟨SL.nil, by simp, trivial⟩, oks_rt⟩
theorem rsameQ_calls {h : Heap} {q : Rep} {v u : Value} (hv : SL encQ h v q.l) (hu : SL encQ h u q.l) (hl : q.l.length ≤ 100000) :
  CallsH Tryz.prog 27 [.agg ⟨[.int .i64 q.k, .int .i64 q.i, .string q.s, v]⟩, .agg ⟨[.int .i64 q.k, .int .i64 q.i, .string q.s, u]⟩] h (Ret fun r h' => r = .bool true ∧ Chg [] h h') := by
 have hc := rsame_calls _ (.mk q.k q.i q.s v (q.l.map itRT)) (.mk q.k q.i q.s u (q.l.map itRT)) h (Nat.lt_succ_self _) ⟨sl_rt hv, by simp; omega, oks_rt⟩ ⟨sl_rt hu, by simp; omega, oks_rt⟩
 have e : RT.same (.mk q.k q.i q.s v (q.l.map itRT)) (.mk q.k q.i q.s u (q.l.map itRT)) = true := by simp [RT.same, RT.sames_refl]
 rw [e] at hc
 exact hc
theorem rsameE_calls {h : Heap} {v u : Value} {E : List Eff} (hv : SL encD h v E) (hu : SL encD h u E) (hE : E.length ≤ 100000) : CallsH Tryz.prog 32 [v, u] h (Ret fun r h' => r = .bool true ∧ h' = h) := by
 obtain ⟨a, c, rfl, _⟩ := hv.form
 obtain ⟨a', c', rfl, _⟩ := hu.form
 refine f32_calls (by simp) ?_
 refine Ai rfl (Ai (fun hne => absurd rfl hne) (fun _ => ?_))
 refine loop_intro (fun q : Nat => [(0, .slice a E.length c), (1, .slice a' E.length c'), (5, .int .i64 q)]) (fun q h' => q ≤ E.length ∧ h' = h) (fun q => E.length - q) 0 ⟨rfl, rfl, rfl, trivial⟩ ⟨Nat.zero_le _, rfl⟩ ?_
 rintro q h' ⟨hq, e⟩
 have e := e.symm
 subst e
 refine Ai rfl (Ai (fun hlt => ?_) (fun hge => ?_))
 ·have hlt : q < E.length := by omega
  obtain ⟨b, o, rfl⟩ := hv.addr (by omega)
  obtain ⟨b', o', rfl⟩ := hu.addr (by omega)
  have hcs := hv.cells encD_len (List.getElem?_eq_getElem hlt)
  have hds := hu.cells encD_len (List.getElem?_eq_getElem hlt)
  refine Ai (by omega) (Ai (by omega) (Ei (encD E[q]) (Ai rfl (Ai hcs ?_))))
  refine Ai (by omega) (Ai (by omega) (Ei (encD E[q]) (Ai rfl (Ai hds ?_))))
  refine Ai rfl (Ai rfl (Ai (fun _ => ?_) (fun hne => absurd rfl hne)))
  refine Ai rfl (fun z hz => ?_)
  have hz := add_in hz (by omega) (by omega)
  subst hz
  exact Ai rfl (Ei (q + 1) (Ai ⟨rfl, rfl, rfl, trivial⟩ (Ai ⟨hlt, rfl⟩ (by omega))))
 ·exact Ai rfl rfl
theorem getPr9 {w : List RX} {k : Nat} (hk : k < (w.map RX.pr).length) (hk' : k < w.length) : (w.map RX.pr)[k] = (w[k].key, w[k].thing) := by
 rw [List.getElem_map]; rfl
theorem w9same_calls {h : Heap} {kb sb mb c : Nat} {m : List KI} {v : Value} {w0 : List RX} (kr : KR h kb sb mb c m) (hv : SL encX h v w0) (g : GX h w0) (hW : Sorted m (w0.map RX.pr)) (hl : w0.length ≤ 65536) :
  CallsH Tryz.prog 33 [ptr kb, v] h (Ret fun r h' => r = .bool true ∧ Chg [] h h') := by
 have hlens : ∀ x ∈ w0, Lens x.thing := by
  intro x hx
  obtain ⟨i, hi, hip⟩ := List.mem_map.1 ((hW.mem x.pr).1 (List.mem_map_of_mem hx))
  have : i.thing = x.thing := congrArg Prod.snd hip
  rw [← this]; exact (kr.here i hi).2.2
 obtain ⟨a, cc, rfl, hcc⟩ := hv.form
 refine f33_calls (by simp) ?_
 intro b3 h1 g1
 have w := (St.start h).new g1
 intro b4 h2 g2
 have w := w.new g2
 intro b5 h3 g3
 have w := w.new g3
 refine w.st1 0 rfl rfl rfl rfl fun h4 w => ?_
 refine call_ret (All_calls (kb := kb)) ?_
 rintro _ h5 ⟨bI, rfl, g5⟩
 have w : St [] h h5 [.b bI [ptr kb], .b b5 [.int .i64 0], .b b4 [.bool false], .b b3 [.slice a w0.length cc]] := w.new g5
 intro l D r h7 hD hl7 hsz hold hmark hloop hy
 have hc7 : Chg [] h5 h7 := ⟨by omega, fun k hk _ => hold k hk⟩
 have hne : D ≠ l := by omega
 have w := w.add (e := lpE l D r .ready) hc7 ⟨hloop, hmark⟩ (fun b hb => by simp [lpE, En.fp] at hb; omega)
 refine (iter_calls hW (fun p k h' => St [] h h' [ltE p, lpE l D r .ready, .b bI [ptr kb], .b b5 [.int .i64 k], .b b4 [.bool false], .b b3 [.slice a w0.length cc]]) (fun _ => False) (w.get 1 rfl) (kr.ext w.chg)
  (fun p h' hp1 hp2 hc => w.add (e := ltE p) hc hp2 (fun b hb => by simp [ltE, En.fp] at hb; omega)) (fun p k h' w => ⟨w.get 2 rfl, kr.ext w.chg⟩) (fun p k h' h'' w hc => w.ext hc) (fun p k h' us hk w tu => ?_)).mono ?_
 ·have hkw : k < w0.length := by simpa using hk
  rw [getPr9 hk hkw] at tu ⊢
  have hlp := w.get 0 rfl
  have w := w.set (e' := fixE p h'[p]?) 0 rfl (Chg.refl _) (by simp) ⟨hlp, rfl⟩ (fun b hb => .inl hb)
  refine hy h' _ _ (w.get 1 rfl).1 rfl ?_
  intro b8 h8 g8
  refine Ei _ (Ai g8.blk (Ai (by decide) (Ai tu.len (Ai (thing_one tu) ?_))))
  intro h9 p9
  have g9 : Grow h' h9 b8 (splice zeroV 0 us) := g8.put p9
  rw [seven rfl tu.len] at g9
  have w := w.new g9
  have tu9 : TH h9 us w0[k].thing := tu.ext g9.chg
  have L9 := (w.get 2 rfl).1
  refine Ai L9 (fun h10 t10 => ?_)
  have w := w.turn 2 rfl hne t10
  have tu10 : TH h10 us w0[k].thing := tu9.ch (turn_ch L9 t10)
  have hv10 := hv.ext w.chg
  have hx10 := (g.ext w.chg) w0[k] (List.getElem_mem hkw)
  obtain ⟨b, o, rfl⟩ := hv10.addr (by omega)
  have hcs := hv10.cells encX_len (i := k) (x := w0[k]) (by simp [hkw])
  refine w.ld1 4 rfl rfl ?_
  refine w.ld1 6 rfl rfl ?_
  refine Ai rfl (Ai (fun hge => absurd hge (by omega)) (fun _ => ?_))
  refine w.ld1 6 rfl rfl ?_
  refine w.ld1 4 rfl rfl ?_
  refine Ai (by omega) (Ai (by omega) (Ei _ (Ai (hcs 0 _ rfl) ?_)))
  refine Ai (fun hne => absurd rfl hne) (fun _ => ?_)
  refine Ei us (Ai tu10.len (Ai (cells_blk (w.get 0 rfl)) ?_))
  refine w.ld1 6 rfl rfl ?_
  refine w.ld1 4 rfl rfl ?_
  refine Ai (by omega) (Ai (by omega) (Ei w0[k].vs (Ai w0[k].len (Ai (cells_vs hcs) ?_))))
  have hfk := (hlens w0[k] (List.getElem_mem hkw)).fits
  refine call_ret (RSame_calls tu10 hx10 hfk hfk) ?_
  rintro r11 h11 ⟨hr11, c11⟩
  rw [decide_eq_true rfl] at hr11
  subst hr11
  have w := w.ext c11
  refine w.ld1 4 rfl rfl ?_
  refine Ai rfl (fun z hz => ?_)
  have hz := add_in hz (by omega) (by omega)
  subst hz
  refine w.st1 4 rfl rfl rfl rfl fun h12 w => ?_
  refine Ai (w.get 2 rfl).1 (fun h13 t13 => ?_)
  have w := w.turn 2 rfl hne t13
  have hfx := w.get 1 rfl
  have w := (w.pick [1, 2, 3, 4, 5, 6] (by decide))
  have w := w.set (e' := ltE p) 0 rfl (Chg.refl _) (by simp) hfx.1 (fun b hb => .inl hb)
  exact .inl ⟨rfl, w, hfx.2⟩
 ·intro e h8 he
  cases e with
  |panicked ch => exact he.elim
  |outgrown => exact he.elim
  |returned u =>
   obtain ⟨p, w⟩ | hF := he
   rotate_left
   ·exact hF.elim
   refine ⟨.ready, none, (w.get 1 rfl).1, by simp, fun h9 t9 => ?_⟩
   have w := w.turn 1 rfl hne t9
   refine w.ld1 3 rfl rfl ?_
   refine w.ld1 5 rfl rfl ?_
   refine Ai rfl (Ai (fun _ => ?_) (fun hne => absurd (by simp) hne))
   refine w.st1 4 rfl rfl rfl rfl fun h10 w => ?_
   refine Ai (w.get 1 rfl).2 (fun h11 p11 => ?_)
   have w := w.gone 1 rfl p11.chg (fun b hb => .inl (by simp at hb; simp [lpE, En.fp, hb]))
   refine Ei _ (Ai (cell_blk (w.get 4 rfl) rfl) ?_)
   exact Ai rfl w.chg
def outR : Res → Rep × List Eff
 |.ok p => p
 |.error why => (rep 2 0 why, [])
theorem DoR.out {h h' : Heap} {r : Value} {res : Res} (x : DoR h res r h') : Chg [] h h' ∧ ∃ ra rn rc la lc, r = .tuple ⟨[.agg ⟨[.int .i64 (outR res).1.k, .int .i64 (outR res).1.i, .string (outR res).1.s, .slice ra rn rc]⟩, .slice la (outR res).2.length lc, .bool true]⟩ ∧
  SL encQ h' (.slice ra rn rc) (outR res).1.l ∧ SL encD h' (.slice la (outR res).2.length lc) (outR res).2 := by
 obtain ⟨c, x⟩ := x
 cases res with
 |error why =>
  have x : r = .tuple ⟨[repV 2 0 why, .slice none 0 0, .bool true]⟩ := x
  subst x
  exact ⟨c, none, 0, 0, none, 0, rfl, SL.nil, SL.nil⟩
 |ok p =>
  obtain ⟨q, E⟩ := p
  obtain ⟨v, lv, rfl, ⟨ra, rn, rc, rfl, hq, _⟩, hs, _⟩ := x
  obtain ⟨la, lc, rfl, _⟩ := hs.form
  exact ⟨c, ra, rn, rc, la, lc, rfl, hq, hs⟩
def Short (res : Res) : Prop := (outR res).1.l.length ≤ 100000 ∧ (outR res).2.length ≤ 100000
def ByP9 (now : Int) (AA : List ByteArray) (res : Space → Res) : Prop := ∀ {h : Heap} {kb sb mb c : Nat} {m : List KI} {S : Space} {av : Value}, KR h kb sb mb c m → Sorted m S → S8 S → S9 S → LaidN h → K5.TabH h → SL encS h av AA → CallsH Tryz.prog 20 [ptr kb, .int .i64 now, av] h (Ret (DoR h (res S)))
def ByR9 (now : Int) (AA : List ByteArray) (res : Space → Res) : Prop := ∀ {h : Heap} {kv av : Value} {k : List RX}, SL encX h kv k → GX h k → UpX k → k.length ≤ 20 → KeysFit k → S8 (k.map RX.pr) → S9 (k.map RX.pr) → LaidN h → SL encS h av AA → CallsH Tryz.prog 31 [kv, .int .i64 now, av] h (Ret (DoR h (res (k.map RX.pr))))
theorem does9_calls {h : Heap} {v av : Value} {l : List RX} {now : Int} {AA : List ByteArray} {res : Space → Res} (hv : SL encX h v l) (g : GX h l) (nv : NVast l) (hun : ∀ x ∈ l, In64 x.thing.unt) (hri : ∀ x ∈ l, ∀ r ∈ x.thing.ranks, In64 r.score) (hla : LaidN h) (ht : K5.TabH h) (hA : SL encS h av AA) (hp : ByP9 now AA res) (hr : ByR9 now AA res)
  (hsh : ∀ S, S8 S → S9 S → Short (res S)) : CallsH Tryz.prog 14 [v, .int .i64 now, av] h (Ret fun r h' => r = .bool true ∧ Chg [] h h') := by
 refine f14_calls (by simp) ?_
 refine call_ret (KOf_calls hv g nv) ?_
 rintro r1 h1 ⟨c1, ho⟩
 cases hk2 : ofX [] l with
 |none =>
  rw [hk2] at ho
  subst ho
  refine call_ret (ROf_calls (hv.ext c1) (g.ext c1) nv) ?_
  rintro r2 h2 ⟨c2, hr2⟩
  have c02 := c1.nil c2
  rw [hk2] at hr2
  subst hr2
  refine Ai rfl (Ai (fun _ => ?_) (fun hne => absurd (by decide) hne))
  refine Ai rfl (Ai (fun _ => ?_) (fun hne => absurd rfl hne))
  exact Ai rfl c02
 |some k =>
  rw [hk2] at ho
  obtain ⟨kb, sb, mb, c, m, rfl, kr, hpr, hmb⟩ := ho
  refine call_ret (ROf_calls (hv.ext c1) (g.ext c1) nv) ?_
  rintro r2 h2 ⟨c2, hr2⟩
  have c02 := c1.nil c2
  rw [hk2] at hr2
  obtain ⟨w, rfl, hw, hwb⟩ := hr2
  have hW := sorted_of hpr hk2
  obtain ⟨hup, hmem, hkl⟩ := ofX_ok List.Pairwise.nil hk2
  have hnl := nv.len
  have hkl : k.length = l.length := by simpa using hkl
  have hkf : KeysFit k := fun x hx => nv.fit x (by simpa using (hmem x).1 hx)
  have gk : GX h2 k := fun x hx => (g.ext c02) x (by simpa using (hmem x).1 hx)
  have s8 := s8_of nv hk2 hun
  have s9 := s9_of nv hk2 hri
  have hsh := hsh _ s8 s9
  refine Ai rfl (Ai (fun hne => absurd rfl hne) (fun _ => ?_))
  refine Ai rfl (Ai (fun hne => absurd rfl hne) (fun _ => ?_))
  refine call_ret (hp (kr.ext c2) hW s8 s9 (hla.ext c02) (tab9 ht c02) (hA.ext c02)) ?_
  rintro r3 h3 h3r
  obtain ⟨c3, ra, rn, rc, la, lc, rfl, hq, hE⟩ := h3r.out
  intro b11 h4 g4
  have u := (St.start h3).new g4
  refine u.st1 0 rfl rfl rfl rfl fun h5 u => ?_
  have c25 := c3.nil u.chg
  refine call_ret (hr (hw.sl.ext c25) (gk.ext c25) hup (by omega) hkf s8 s9 (hla.ext (c02.nil c25)) (hA.ext (c02.nil c25))) ?_
  rintro r6 h6 h6r
  obtain ⟨c6, ra', rn', rc', la', lc', rfl, hq', hE'⟩ := h6r.out
  have u := u.ext c6
  intro b14 h7 g7
  have u := u.new g7
  have z7 := (St.start h6).new g7
  refine u.st2 0 rfl rfl rfl rfl fun h8 u k8 => ?_
  have c68 : Chg [] h6 h8 := g7.chg.fresh k8 (by simp; have := g7.id; omega)
  refine Ai (fun _ => ?_) (fun hne => absurd rfl hne)
  refine u.ldw 1 rfl rfl ?_
  refine u.ldw 0 rfl rfl ?_
  refine call_ret (rsameQ_calls (hq.ext u.chg) (hq'.ext c68) hsh.1) ?_
  rintro _ h9 ⟨rfl, c9⟩
  have u := u.ext c9
  refine call_ret (rsameE_calls (hE.ext u.chg) (hE'.ext (c68.nil c9)) hsh.2) ?_
  rintro _ h10 ⟨rfl, e10⟩
  have e10 := e10.symm
  subst e10
  have c2f := c3.nil u.chg
  refine call_ret (w9same_calls ((kr.ext c2).ext c2f) (hw.sl.ext c2f) (gk.ext c2f) hW (by omega)) ?_
  rintro _ h11 ⟨rfl, c11⟩
  exact Ai rfl ((c02.nil c2f).nil c11)
section
variable {S : Space} {now kd : Int} {key s u : ByteArray} {names : List ByteArray} {f : Thing → Res} {res : Res} {r : Rep} {E : List Eff} {a b : Res}
theorem kindlyR_ok (h : okK kd (getS S key now) = true) : kindly S now kd key f = f ((getS S key now).getD zeroT) := by
 unfold kindly
 cases hg : getS S key now with
 |none => rfl
 |some t =>
  rw [hg] at h
  exact if_pos (of_decide_eq_true h)
theorem kindlyR_no (h : okK kd (getS S key now) = false) : kindly S now kd key f = .error wType := by
 unfold kindly
 cases hg : getS S key now with
 |none => rw [hg] at h; cases h
 |some t =>
  rw [hg] at h
  exact if_neg (of_decide_eq_false h)
theorem makes_ok {items : Int} {ok : Bool} (h1 : items ≤ 65536) (h2 : key.size ≤ 300) (h3 : ok = true) : makes S now key items ok r E = .ok (r, dropsS S key now ++ E) := if_pos ⟨h1, by omega, h3⟩
theorem all_small {l : List ByteArray} (h : ∀ s ∈ l, s.size ≤ 300) : l.all small = true := List.all_eq_true.2 fun s hs => decide_eq_true (by have := h s hs; omega)
def QL (res : Res) : Prop := ∀ q E, res = .ok (q, E) → q.l.length ≤ 100000
theorem QL.bad {w : ByteArray} : QL (.error w) := fun q E h => by cases h
theorem QL.one (h : r.l.length ≤ 100000) : QL (.ok (r, E)) := fun q E' e => by cases e; exact h
theorem QL.ite {c : Prop} [Decidable c] (ha : QL a) (hb : QL b) : QL (if c then a else b) := by split <;> assumption
theorem QL.kind (h : ∀ t, T9 t → QL (f t)) (hs : S9 S) : QL (kindly S now kd key f) := by
 unfold kindly
 have h9 := hs.get key now
 cases hg : getS S key now with
 |none => rw [hg] at h9; exact h _ h9
 |some t => rw [hg] at h9; exact QL.ite (h _ h9) QL.bad
theorem QL.make {items : Int} {ok : Bool} (h : r.l.length ≤ 100000) : QL (makes S now key items ok r E) := QL.ite (QL.one h) QL.bad
theorem QL.num {f : Int → Res} (h : ∀ n, QL (f n)) : QL (numbered s f) := by
 unfold numbered
 split
 ·exact h _
 ·exact QL.bad
theorem short_of (hf : Fine S res) (hq : QL res) : Short res := by
 cases res with
 |error w => exact ⟨by show (0 : Nat) ≤ _; omega, by show (0 : Nat) ≤ _; omega⟩
 |ok p => exact ⟨hq _ _ rfl, (hf _ _ rfl).2.1⟩
def vLPUSH : ByteArray := ⟨#[76, 80, 85, 83, 72]⟩
theorem byP_LPUSH (hln : names.length ≤ 6) (hz : ∀ a ∈ (key :: names), a.size ≤ 300) : ByP9 now (vLPUSH :: (key :: names)) (fun S => cPush S now headE (key :: names)) := by
 intro h kb sb mb c m S av kr hs s8 s9 hla ht hav
 have hA : ∀ a ∈ (key :: names : List ByteArray), a.size < 281474976710656 := fun a ha => by have := hz a ha; omega
 exact do9_calls (w := vLPUSH) kr hav (by simp only [List.length_cons]; omega) (by decide) (by kernel_rfl) (fun h2 ab av' hx x => lpush9 ⟨kr, hs, hx⟩ s9 hA x)
theorem sh_LPUSH (hln : names.length ≤ 6) : ∀ S, S8 S → S9 S → Short (cPush S now headE (key :: names)) := fun S s8 s9 => short_of (fine_lpush s8.few s9 (by simp only [List.length_cons]; omega)) (QL.ite (QL.kind (fun t ht => QL.make (by show (0 : Nat) ≤ _; omega)) s9) QL.bad)
theorem byR_LPUSH (hln : names.length ≤ 6) (hz : ∀ a ∈ (key :: names), a.size ≤ 300) : ByR9 now (vLPUSH :: (key :: names)) (fun S => cPush S now headE (key :: names)) := by
 intro h kv av k hsl hgx hup hlen hfit s8 s9 hla hav
 refine rdoL_calls (N := qLPUSH) (A := (key :: names)) hsl hgx hup (by omega) hfit hav (by simp only [List.length_cons]; omega) (by decide) hz (by kernel_rfl) rb_LPUSH (by decide) (by decide) (by decide) (by decide) ?_ ?_ ?_ (fun key => s9.get key now) ?_
 ·intro hh
  cases names with
  |nil => rfl
  |cons a l => exact absurd ⟨by simp only [List.length_cons]; omega, by simp only [List.length_cons] at hln ⊢; omega⟩ hh
 ·rintro _ _ ⟨j, h1, h2, h3, _⟩
  unfold need9 at h3; omega
 ·intro m1 m2 hall key' hk' hok
  obtain rfl : key = key' := Option.some.inj hk'
  have hp : 1 ≤ names.length ∧ names.length < 65536 := ⟨by simp only [List.length_cons] at m1; omega, by omega⟩
  show (if 1 ≤ names.length ∧ names.length < 65536 then kindly _ _ _ _ _ else _) = _
  rw [if_pos hp, kindlyR_no hok]
 ·intro h1 xb av' pv lw rv key' hk' m1 m2 hall hok g x
  obtain rfl : key = key' := Option.some.inj hk'
  have hp : 1 ≤ names.length ∧ names.length < 65536 := ⟨by simp only [List.length_cons] at m1; omega, by omega⟩
  have hl9 := g.t9.ls
  have e : cPush (k.map RX.pr) now headE (key :: names) = .ok (numR (((getS (k.map RX.pr) key now).getD zeroT).list.length + names.length), dropsS (k.map RX.pr) key now ++ names.map (headE key)) := by
   show (if 1 ≤ names.length ∧ names.length < 65536 then kindly _ _ _ _ _ else _) = _
   rw [if_pos hp, kindlyR_ok hok]
   exact makes_ok (by omega) g.ks (all_small fun s hs => hz s (List.mem_cons_of_mem _ hs))
  have hh := rlpush_calls (by omega) x g
  rw [← e] at hh
  exact hh
def vRPUSH : ByteArray := ⟨#[82, 80, 85, 83, 72]⟩
theorem byP_RPUSH (hln : names.length ≤ 6) (hz : ∀ a ∈ (key :: names), a.size ≤ 300) : ByP9 now (vRPUSH :: (key :: names)) (fun S => cPush S now tailE (key :: names)) := by
 intro h kb sb mb c m S av kr hs s8 s9 hla ht hav
 have hA : ∀ a ∈ (key :: names : List ByteArray), a.size < 281474976710656 := fun a ha => by have := hz a ha; omega
 exact do9_calls (w := vRPUSH) kr hav (by simp only [List.length_cons]; omega) (by decide) (by kernel_rfl) (fun h2 ab av' hx x => rpush9 ⟨kr, hs, hx⟩ s9 hA x)
theorem sh_RPUSH (hln : names.length ≤ 6) : ∀ S, S8 S → S9 S → Short (cPush S now tailE (key :: names)) := fun S s8 s9 => short_of (fine_rpush s8.few s9 (by simp only [List.length_cons]; omega)) (QL.ite (QL.kind (fun t ht => QL.make (by show (0 : Nat) ≤ _; omega)) s9) QL.bad)
theorem byR_RPUSH (hln : names.length ≤ 6) (hz : ∀ a ∈ (key :: names), a.size ≤ 300) : ByR9 now (vRPUSH :: (key :: names)) (fun S => cPush S now tailE (key :: names)) := by
 intro h kv av k hsl hgx hup hlen hfit s8 s9 hla hav
 refine rdoL_calls (N := qRPUSH) (A := (key :: names)) hsl hgx hup (by omega) hfit hav (by simp only [List.length_cons]; omega) (by decide) hz (by kernel_rfl) rb_RPUSH (by decide) (by decide) (by decide) (by decide) ?_ ?_ ?_ (fun key => s9.get key now) ?_
 ·intro hh
  cases names with
  |nil => rfl
  |cons a l => exact absurd ⟨by simp only [List.length_cons]; omega, by simp only [List.length_cons] at hln ⊢; omega⟩ hh
 ·rintro _ _ ⟨j, h1, h2, h3, _⟩
  unfold need9 at h3; omega
 ·intro m1 m2 hall key' hk' hok
  obtain rfl : key = key' := Option.some.inj hk'
  have hp : 1 ≤ names.length ∧ names.length < 65536 := ⟨by simp only [List.length_cons] at m1; omega, by omega⟩
  show (if 1 ≤ names.length ∧ names.length < 65536 then kindly _ _ _ _ _ else _) = _
  rw [if_pos hp, kindlyR_no hok]
 ·intro h1 xb av' pv lw rv key' hk' m1 m2 hall hok g x
  obtain rfl : key = key' := Option.some.inj hk'
  have hp : 1 ≤ names.length ∧ names.length < 65536 := ⟨by simp only [List.length_cons] at m1; omega, by omega⟩
  have hl9 := g.t9.ls
  have e : cPush (k.map RX.pr) now tailE (key :: names) = .ok (numR (((getS (k.map RX.pr) key now).getD zeroT).list.length + names.length), dropsS (k.map RX.pr) key now ++ names.map (tailE key)) := by
   show (if 1 ≤ names.length ∧ names.length < 65536 then kindly _ _ _ _ _ else _) = _
   rw [if_pos hp, kindlyR_ok hok]
   exact makes_ok (by omega) g.ks (all_small fun s hs => hz s (List.mem_cons_of_mem _ hs))
  have hh := rrpush_calls (by omega) x g
  rw [← e] at hh
  exact hh
def vLPOP : ByteArray := ⟨#[76, 80, 79, 80]⟩
theorem byP_LPOP (hz : ∀ a ∈ [key], a.size ≤ 300) : ByP9 now (vLPOP :: [key]) (fun S => cPop S now unheadE 0 [key]) := by
 intro h kb sb mb c m S av kr hs s8 s9 hla ht hav
 have hA : ∀ a ∈ ([key] : List ByteArray), a.size < 281474976710656 := fun a ha => by have := hz a ha; omega
 exact do9_calls (w := vLPOP) kr hav (by simp only [List.length_cons, List.length_nil]; omega) (by decide) (by kernel_rfl) (fun h2 ab av' hx x => lpop9 ⟨kr, hs, hx⟩ s9 x)
theorem sh_LPOP : ∀ S, S8 S → S9 S → Short (cPop S now unheadE 0 [key]) := fun S s8 s9 => short_of (fine_lpop s8.few s9) (by simp only [cPop, arg1]; exact QL.kind (fun t ht => by split <;> exact QL.one (by show (0 : Nat) ≤ _; omega)) s9)
theorem byR_LPOP (hz : ∀ a ∈ [key], a.size ≤ 300) : ByR9 now (vLPOP :: [key]) (fun S => cPop S now unheadE 0 [key]) := by
 intro h kv av k hsl hgx hup hlen hfit s8 s9 hla hav
 refine rdoL_calls (N := qLPOP) (A := [key]) hsl hgx hup (by omega) hfit hav (by simp only [List.length_cons, List.length_nil]; omega) (by decide) hz (by kernel_rfl) rb_LPOP (by decide) (by decide) (by decide) (by decide) ?_ ?_ ?_ (fun key => s9.get key now) ?_
 ·intro hh; exact absurd ⟨by simp, by simp⟩ hh
 ·rintro _ _ ⟨j, h1, h2, h3, _⟩
  unfold need9 at h3; omega
 ·intro m1 m2 hall key' hk' hok
  obtain rfl : key = key' := Option.some.inj hk'
  simp only [cPop, arg1, kindlyR_no hok]
 ·intro h1 xb av' pv lw rv key' hk' m1 m2 hall hok g x
  obtain rfl : key = key' := Option.some.inj hk'
  have hl9 := g.t9.ls
  simp only [cPop, arg1, kindlyR_ok hok]
  exact rlpop_calls x g
def vRPOP : ByteArray := ⟨#[82, 80, 79, 80]⟩
theorem byP_RPOP (hz : ∀ a ∈ [key], a.size ≤ 300) : ByP9 now (vRPOP :: [key]) (fun S => cPop S now untailE (-1) [key]) := by
 intro h kb sb mb c m S av kr hs s8 s9 hla ht hav
 have hA : ∀ a ∈ ([key] : List ByteArray), a.size < 281474976710656 := fun a ha => by have := hz a ha; omega
 exact do9_calls (w := vRPOP) kr hav (by simp only [List.length_cons, List.length_nil]; omega) (by decide) (by kernel_rfl) (fun h2 ab av' hx x => rpop9 ⟨kr, hs, hx⟩ s9 x)
theorem sh_RPOP : ∀ S, S8 S → S9 S → Short (cPop S now untailE (-1) [key]) := fun S s8 s9 => short_of (fine_rpop s8.few s9) (by simp only [cPop, arg1]; exact QL.kind (fun t ht => by split <;> exact QL.one (by show (0 : Nat) ≤ _; omega)) s9)
theorem byR_RPOP (hz : ∀ a ∈ [key], a.size ≤ 300) : ByR9 now (vRPOP :: [key]) (fun S => cPop S now untailE (-1) [key]) := by
 intro h kv av k hsl hgx hup hlen hfit s8 s9 hla hav
 refine rdoL_calls (N := qRPOP) (A := [key]) hsl hgx hup (by omega) hfit hav (by simp only [List.length_cons, List.length_nil]; omega) (by decide) hz (by kernel_rfl) rb_RPOP (by decide) (by decide) (by decide) (by decide) ?_ ?_ ?_ (fun key => s9.get key now) ?_
 ·intro hh; exact absurd ⟨by simp, by simp⟩ hh
 ·rintro _ _ ⟨j, h1, h2, h3, _⟩
  unfold need9 at h3; omega
 ·intro m1 m2 hall key' hk' hok
  obtain rfl : key = key' := Option.some.inj hk'
  simp only [cPop, arg1, kindlyR_no hok]
 ·intro h1 xb av' pv lw rv key' hk' m1 m2 hall hok g x
  obtain rfl : key = key' := Option.some.inj hk'
  have hl9 := g.t9.ls
  simp only [cPop, arg1, kindlyR_ok hok]
  exact rrpop_calls x g
def vLLEN : ByteArray := ⟨#[76, 76, 69, 78]⟩
theorem byP_LLEN (hz : ∀ a ∈ [key], a.size ≤ 300) : ByP9 now (vLLEN :: [key]) (fun S => cLlen S now [key]) := by
 intro h kb sb mb c m S av kr hs s8 s9 hla ht hav
 have hA : ∀ a ∈ ([key] : List ByteArray), a.size < 281474976710656 := fun a ha => by have := hz a ha; omega
 exact do9_calls (w := vLLEN) kr hav (by simp only [List.length_cons, List.length_nil]; omega) (by decide) (by kernel_rfl) (fun h2 ab av' hx x => llen9 ⟨kr, hs, hx⟩ x)
theorem sh_LLEN : ∀ S, S8 S → S9 S → Short (cLlen S now [key]) := fun S s8 s9 => short_of (fine_llen) (by simp only [cLlen, arg1]; exact QL.kind (fun t ht => QL.one (by show (0 : Nat) ≤ _; omega)) s9)
theorem byR_LLEN (hz : ∀ a ∈ [key], a.size ≤ 300) : ByR9 now (vLLEN :: [key]) (fun S => cLlen S now [key]) := by
 intro h kv av k hsl hgx hup hlen hfit s8 s9 hla hav
 refine rdoL_calls (N := qLLEN) (A := [key]) hsl hgx hup (by omega) hfit hav (by simp only [List.length_cons, List.length_nil]; omega) (by decide) hz (by kernel_rfl) rb_LLEN (by decide) (by decide) (by decide) (by decide) ?_ ?_ ?_ (fun key => s9.get key now) ?_
 ·intro hh; exact absurd ⟨by simp, by simp⟩ hh
 ·rintro _ _ ⟨j, h1, h2, h3, _⟩
  unfold need9 at h3; omega
 ·intro m1 m2 hall key' hk' hok
  obtain rfl : key = key' := Option.some.inj hk'
  simp only [cLlen, arg1, kindlyR_no hok]
 ·intro h1 xb av' pv lw rv key' hk' m1 m2 hall hok g x
  obtain rfl : key = key' := Option.some.inj hk'
  have hl9 := g.t9.ls
  simp only [cLlen, arg1, kindlyR_ok hok]
  exact rllen_calls x g
def vLINDEX : ByteArray := ⟨#[76, 73, 78, 68, 69, 88]⟩
theorem byP_LINDEX (hz : ∀ a ∈ [key, s], a.size ≤ 300) : ByP9 now (vLINDEX :: [key, s]) (fun S => cLindex S now [key, s]) := by
 intro h kb sb mb c m S av kr hs s8 s9 hla ht hav
 have hA : ∀ a ∈ ([key, s] : List ByteArray), a.size < 281474976710656 := fun a ha => by have := hz a ha; omega
 exact do9_calls (w := vLINDEX) kr hav (by simp only [List.length_cons, List.length_nil]; omega) (by decide) (by kernel_rfl) (fun h2 ab av' hx x => lindex9 ⟨kr, hs, hx⟩ s9 hla hA x)
theorem sh_LINDEX : ∀ S, S8 S → S9 S → Short (cLindex S now [key, s]) := fun S s8 s9 => short_of (fine_lindex) (by simp only [cLindex, arg2]; exact QL.num fun n => QL.kind (fun t ht => by split <;> exact QL.one (by show (0 : Nat) ≤ _; omega)) s9)
theorem byR_LINDEX (hz : ∀ a ∈ [key, s], a.size ≤ 300) : ByR9 now (vLINDEX :: [key, s]) (fun S => cLindex S now [key, s]) := by
 intro h kv av k hsl hgx hup hlen hfit s8 s9 hla hav
 refine rdoL_calls (N := qLINDEX) (A := [key, s]) hsl hgx hup (by omega) hfit hav (by simp only [List.length_cons, List.length_nil]; omega) (by decide) hz (by kernel_rfl) rb_LINDEX (by decide) (by decide) (by decide) (by decide) ?_ ?_ ?_ (fun key => s9.get key now) ?_
 ·intro hh; exact absurd ⟨by simp, by simp⟩ hh
 ·rintro _ _ ⟨j, h1, h2, h3, h4⟩
  obtain rfl : j = 1 := by simp at h2; omega
  have h4 : numOf s = none := h4
  simp [cLindex, arg2, numbered, h4]
 ·intro m1 m2 hall key' hk' hok
  obtain rfl : key = key' := Option.some.inj hk'
  obtain ⟨nn, hn⟩ := hall 1 (by decide) (by simp) (.inr (.inr ⟨rfl, by decide⟩))
  have hn : numOf s = some nn := hn
  simp only [cLindex, arg2, numbered, hn, kindlyR_no hok]
 ·intro h1 xb av' pv lw rv key' hk' m1 m2 hall hok g x
  obtain rfl : key = key' := Option.some.inj hk'
  have hl9 := g.t9.ls
  obtain ⟨nn, hn⟩ := hall 1 (by decide) (by simp) (.inr (.inr ⟨rfl, by decide⟩))
  have hn : numOf s = some nn := hn
  simp only [cLindex, arg2, numbered, hn, kindlyR_ok hok]
  exact rlindex_calls hn x g
def vLRANGE : ByteArray := ⟨#[76, 82, 65, 78, 71, 69]⟩
theorem byP_LRANGE (hz : ∀ a ∈ [key, s, u], a.size ≤ 300) : ByP9 now (vLRANGE :: [key, s, u]) (fun S => cLrange S now [key, s, u]) := by
 intro h kb sb mb c m S av kr hs s8 s9 hla ht hav
 have hA : ∀ a ∈ ([key, s, u] : List ByteArray), a.size < 281474976710656 := fun a ha => by have := hz a ha; omega
 exact do9_calls (w := vLRANGE) kr hav (by simp only [List.length_cons, List.length_nil]; omega) (by decide) (by kernel_rfl) (fun h2 ab av' hx x => lrange9 ⟨kr, hs, hx⟩ s9 hla hA x)
theorem sh_LRANGE : ∀ S, S8 S → S9 S → Short (cLrange S now [key, s, u]) := fun S s8 s9 => short_of (fine_lrange) (by simp only [cLrange, arg3]; exact QL.num fun n => QL.num fun m => QL.kind (fun t ht => QL.one (by show ((spanL t.list n m).map _).length ≤ _; have := ht.ls; unfold spanL; simp only [List.length_map, List.length_take, List.length_drop]; omega)) s9)
theorem byR_LRANGE (hz : ∀ a ∈ [key, s, u], a.size ≤ 300) : ByR9 now (vLRANGE :: [key, s, u]) (fun S => cLrange S now [key, s, u]) := by
 intro h kv av k hsl hgx hup hlen hfit s8 s9 hla hav
 refine rdoL_calls (N := qLRANGE) (A := [key, s, u]) hsl hgx hup (by omega) hfit hav (by simp only [List.length_cons, List.length_nil]; omega) (by decide) hz (by kernel_rfl) rb_LRANGE (by decide) (by decide) (by decide) (by decide) ?_ ?_ ?_ (fun key => s9.get key now) ?_
 ·intro hh; exact absurd ⟨by simp, by simp⟩ hh
 ·rintro _ _ ⟨j, h1, h2, h3, h4⟩
  have h2 : j < 3 := h2
  rcases (show j = 1 ∨ j = 2 by omega) with rfl | rfl
  ·have h4 : numOf s = none := h4
   simp [cLrange, arg3, numbered, h4]
  ·have h4 : numOf u = none := h4
   cases hs : numOf s <;> simp [cLrange, arg3, numbered, h4, hs]
 ·intro m1 m2 hall key' hk' hok
  obtain rfl : key = key' := Option.some.inj hk'
  obtain ⟨nn, hn⟩ := hall 1 (by decide) (by simp) (.inr (.inl rfl))
  have hn : numOf s = some nn := hn
  obtain ⟨mm, hm⟩ := hall 2 (by decide) (by simp) (.inr (.inl rfl))
  have hm : numOf u = some mm := hm
  simp only [cLrange, arg3, numbered, hn, hm, kindlyR_no hok]
 ·intro h1 xb av' pv lw rv key' hk' m1 m2 hall hok g x
  obtain rfl : key = key' := Option.some.inj hk'
  have hl9 := g.t9.ls
  obtain ⟨nn, hn⟩ := hall 1 (by decide) (by simp) (.inr (.inl rfl))
  have hn : numOf s = some nn := hn
  obtain ⟨mm, hm⟩ := hall 2 (by decide) (by simp) (.inr (.inl rfl))
  have hm : numOf u = some mm := hm
  simp only [cLrange, arg3, numbered, hn, hm, kindlyR_ok hok]
  exact rlrange_calls hn hm x g
def vLSET : ByteArray := ⟨#[76, 83, 69, 84]⟩
theorem byP_LSET (hz : ∀ a ∈ [key, s, u], a.size ≤ 300) : ByP9 now (vLSET :: [key, s, u]) (fun S => cLset S now [key, s, u]) := by
 intro h kb sb mb c m S av kr hs s8 s9 hla ht hav
 have hA : ∀ a ∈ ([key, s, u] : List ByteArray), a.size < 281474976710656 := fun a ha => by have := hz a ha; omega
 exact do9_calls (w := vLSET) kr hav (by simp only [List.length_cons, List.length_nil]; omega) (by decide) (by kernel_rfl) (fun h2 ab av' hx x => lset9 ⟨kr, hs, hx⟩ s9 hla hA x)
theorem sh_LSET : ∀ S, S8 S → S9 S → Short (cLset S now [key, s, u]) := fun S s8 s9 => short_of (fine_lset s8.few s9) (by simp only [cLset, arg3]; exact QL.num fun n => QL.kind (fun t ht => by split; exact QL.make (by show (0 : Nat) ≤ _; omega); exact QL.bad) s9)
theorem byR_LSET (hz : ∀ a ∈ [key, s, u], a.size ≤ 300) : ByR9 now (vLSET :: [key, s, u]) (fun S => cLset S now [key, s, u]) := by
 intro h kv av k hsl hgx hup hlen hfit s8 s9 hla hav
 refine rdoL_calls (N := qLSET) (A := [key, s, u]) hsl hgx hup (by omega) hfit hav (by simp only [List.length_cons, List.length_nil]; omega) (by decide) hz (by kernel_rfl) rb_LSET (by decide) (by decide) (by decide) (by decide) ?_ ?_ ?_ (fun key => s9.get key now) ?_
 ·intro hh; exact absurd ⟨by simp, by simp⟩ hh
 ·rintro _ _ ⟨j, h1, h2, h3, h4⟩
  obtain rfl : j = 1 := by unfold need9 at h3; omega
  have h4 : numOf s = none := h4
  simp [cLset, arg3, numbered, h4]
 ·intro m1 m2 hall key' hk' hok
  obtain rfl : key = key' := Option.some.inj hk'
  obtain ⟨nn, hn⟩ := hall 1 (by decide) (by simp) (.inr (.inr ⟨rfl, by decide⟩))
  have hn : numOf s = some nn := hn
  simp only [cLset, arg3, numbered, hn, kindlyR_no hok]
 ·intro h1 xb av' pv lw rv key' hk' m1 m2 hall hok g x
  obtain rfl : key = key' := Option.some.inj hk'
  have hl9 := g.t9.ls
  obtain ⟨nn, hn⟩ := hall 1 (by decide) (by simp) (.inr (.inr ⟨rfl, by decide⟩))
  have hn : numOf s = some nn := hn
  simp only [cLset, arg3, numbered, hn, kindlyR_ok hok]
  have zu := hz u (by simp)
  have mk : ∀ i : Nat, makes (k.map RX.pr) now key ((getS (k.map RX.pr) key now).getD zeroT).list.length (small u) okR [atE key i u] = .ok (okR, dropsS (k.map RX.pr) key now ++ [atE key i u]) := fun i => makes_ok (by omega) g.ks (decide_eq_true (by omega))
  simp only [mk]
  exact rlset_calls hn x g
end
end Go.Proofs.YtjnijlnmbjjgpaaGreatDoor
namespace Go.Proofs.YtjnijlnmbjjgpaaGreatDoor
open Go Go.Sx C
theorem large9_calls {h : Heap} {vs : List Value} {t : Thing} (x : TH h vs t) (f : Fits t) (s : Sized t) :
  CallsH Tryz.prog 30 [.agg ⟨vs⟩] h (Ret fun r h' => (∃ b, r = .bool b ∧ (b = false → Small t)) ∧ Chg [] h h') := by
 have fp := f.p; have fl := f.l; have fr := f.r
 refine f30_calls (by simp) ?_
 intro b1 h1 g1
 have B1 : Blk h1 b1 vs := g1.blk
 have hc := g1.chg
 obtain ⟨pv, lv, rv, rfl, hp, hl, hr⟩ := x.ext hc
 obtain ⟨pa, pc, rfl, _⟩ := hp.form
 obtain ⟨la, lc, rfl, _⟩ := hl.form
 obtain ⟨ra, rc, rfl, _⟩ := hr.form
 have yes : Ret (fun r h' => (∃ b, r = .bool b ∧ (b = false → Small t)) ∧ Chg [] h h') (.returned (retV [Value.bool true])) h1 := ⟨⟨true, rfl, fun h => by cases h⟩, hc⟩
 refine Ei _ (Ai (cell_blk B1 rfl) ?_)
 refine Ei _ (Ai (cell_blk B1 rfl) ?_)
 refine Ai rfl (Ai (fun _ => yes) (fun n1 => ?_))
 refine Ei _ (Ai (cell_blk B1 rfl) ?_)
 refine Ai rfl (Ai (fun _ => yes) (fun n2 => ?_))
 refine Ei _ (Ai (cell_blk B1 rfl) ?_)
 refine Ai rfl (Ai (fun _ => yes) (fun n3 => ?_))
 refine Ai rfl (Ai (fun _ => yes) (fun n4 => ?_))
 have ht := s.text
 -- the pairs
 refine loop_intro (fun i : Nat × Int => [(1, .pointer (some ⟨b1, 0, none⟩)), (3, .int .i64 i.2), (4, .int .i64 i.1)]) (fun i h' => i.1 ≤ t.pairs.length ∧ h' = h1 ∧ 0 ≤ i.2 ∧ i.2 ≤ 2000 ∧ ∀ x ∈ t.pairs.take i.1, x.name.size ≤ 2000 ∧ x.text.size ≤ 2000) (fun i => t.pairs.length - i.1) (0, t.text.size)
  ⟨rfl, rfl, rfl, trivial⟩ ⟨Nat.zero_le _, rfl, by simp only; omega, by simp only; omega, by simp⟩ ?_
 rintro ⟨k, n⟩ h3 ⟨hk, h32, hn0, hn1, hps⟩
 have h32 := h32.symm
 subst h32
 simp only at hk hn0 hn1 hps
 refine Ei _ (Ai (cell_blk B1 rfl) ?_)
 refine Ai rfl (Ai (fun hlt => ?_) (fun hlt => ?_))
 ·have hkk : k < t.pairs.length := by omega
  obtain ⟨b3, o, rfl⟩ := hp.addr (by omega)
  have hcs := hp.cells encP_len (i := k) (x := t.pairs[k]) (by simp [hkk])
  obtain ⟨z1, z2⟩ := s.ps t.pairs[k] (List.getElem_mem hkk)
  refine Ei _ (Ai (cell_blk B1 rfl) ?_)
  refine Ai (by omega) (Ai (by omega) (Ei _ (Ai (hcs 0 _ rfl) ?_)))
  refine Ai rfl (fun y hy => ?_)
  have hy := add_in hy (by omega) (by omega)
  refine Ei _ (Ai (cell_blk B1 rfl) ?_)
  refine Ai (by omega) (Ai (by omega) (Ei _ (Ai (hcs 1 _ rfl) ?_)))
  refine Ai rfl (fun w hw => ?_)
  have hw := add_in hw (by omega) (by omega)
  refine Ai rfl (Ai (fun _ => yes) (fun n5 => ?_))
  refine Ai rfl (fun z hz => ?_)
  have hz := add_in hz (by omega) (by omega)
  subst hz
  refine Ai rfl (Ei (k + 1, w) (Ai ?_ (Ai ?_ ?_)))
  ·exact ⟨rfl, rfl, rfl, trivial⟩
  ·refine ⟨by simp only; omega, rfl, by simp only; omega, by simp only; omega, fun q hq => ?_⟩
   simp only at hq
   rw [take_snoc t.pairs k hkk] at hq
   rcases List.mem_append.1 hq with hq | hq
   ·exact hps q hq
   ·have : q = t.pairs[k] := by simpa using hq
    rw [this]; omega
  ·simp only; omega
 have hkl : k = t.pairs.length := by omega
 rw [hkl, List.take_length] at hps
 clear hlt hkl hk
 -- the list
 refine loop_intro (fun i : Nat × Int => [(1, .pointer (some ⟨b1, 0, none⟩)), (3, .int .i64 i.2), (5, .int .i64 i.1)]) (fun i h' => i.1 ≤ t.list.length ∧ h' = h1 ∧ 0 ≤ i.2 ∧ i.2 ≤ 2000 ∧ ∀ x ∈ t.list.take i.1, x.size ≤ 2000) (fun i => t.list.length - i.1) (0, n)
  ⟨rfl, rfl, rfl, trivial⟩ ⟨Nat.zero_le _, rfl, by simp only; omega, by simp only; omega, by simp⟩ ?_
 clear hn0 hn1
 rintro ⟨k, n⟩ h3 ⟨hk, h32, hn0, hn1, hls⟩
 have h32 := h32.symm
 subst h32
 simp only at hk hn0 hn1 hls
 refine Ei _ (Ai (cell_blk B1 rfl) ?_)
 refine Ai rfl (Ai (fun hlt => ?_) (fun hlt => ?_))
 ·have hkk : k < t.list.length := by omega
  obtain ⟨b3, o, rfl⟩ := hl.addr (by omega)
  have hcs := hl.cells encS_len (i := k) (x := t.list[k]) (by simp [hkk])
  have z1 := s.ls t.list[k] (List.getElem_mem hkk)
  refine Ei _ (Ai (cell_blk B1 rfl) ?_)
  refine Ai (by omega) (Ai (by omega) (Ei _ (Ai (hcs 0 _ rfl) ?_)))
  refine Ai rfl (fun w hw => ?_)
  have hw := add_in hw (by omega) (by omega)
  refine Ai rfl (Ai (fun _ => yes) (fun n5 => ?_))
  refine Ai rfl (fun z hz => ?_)
  have hz := add_in hz (by omega) (by omega)
  subst hz
  refine Ai rfl (Ei (k + 1, w) (Ai ?_ (Ai ?_ ?_)))
  ·exact ⟨rfl, rfl, rfl, trivial⟩
  ·refine ⟨by simp only; omega, rfl, by simp only; omega, by simp only; omega, fun q hq => ?_⟩
   simp only at hq
   rw [take_snoc t.list k hkk] at hq
   rcases List.mem_append.1 hq with hq | hq
   ·exact hls q hq
   ·have : q = t.list[k] := by simpa using hq
    rw [this]; omega
  ·simp only; omega
 have hkl : k = t.list.length := by omega
 rw [hkl, List.take_length] at hls
 clear hlt hkl hk
 -- the ranks
 refine loop_intro (fun i : Nat × Int => [(1, .pointer (some ⟨b1, 0, none⟩)), (3, .int .i64 i.2), (6, .int .i64 i.1)]) (fun i h' => i.1 ≤ t.ranks.length ∧ h' = h1 ∧ 0 ≤ i.2 ∧ i.2 ≤ 2000 ∧ ∀ x ∈ t.ranks.take i.1, x.name.size ≤ 2000) (fun i => t.ranks.length - i.1) (0, n)
  ⟨rfl, rfl, rfl, trivial⟩ ⟨Nat.zero_le _, rfl, by simp only; omega, by simp only; omega, by simp⟩ ?_
 clear hn0 hn1
 rintro ⟨k, n⟩ h3 ⟨hk, h32, hn0, hn1, hrs⟩
 have h32 := h32.symm
 subst h32
 simp only at hk hn0 hn1 hrs
 refine Ei _ (Ai (cell_blk B1 rfl) ?_)
 refine Ai rfl (Ai (fun hlt => ?_) (fun hlt => ?_))
 ·have hkk : k < t.ranks.length := by omega
  obtain ⟨b3, o, rfl⟩ := hr.addr (by omega)
  have hcs := hr.cells encR_len (i := k) (x := t.ranks[k]) (by simp [hkk])
  have z1 := s.rs t.ranks[k] (List.getElem_mem hkk)
  refine Ei _ (Ai (cell_blk B1 rfl) ?_)
  refine Ai (by omega) (Ai (by omega) (Ei _ (Ai (hcs 0 _ rfl) ?_)))
  refine Ai rfl (fun w hw => ?_)
  have hw := add_in hw (by omega) (by omega)
  refine Ai rfl (Ai (fun _ => yes) (fun n5 => ?_))
  refine Ai rfl (fun z hz => ?_)
  have hz := add_in hz (by omega) (by omega)
  subst hz
  refine Ai rfl (Ei (k + 1, w) (Ai ?_ (Ai ?_ ?_)))
  ·exact ⟨rfl, rfl, rfl, trivial⟩
  ·refine ⟨by simp only; omega, rfl, by simp only; omega, by simp only; omega, fun q hq => ?_⟩
   simp only at hq
   rw [take_snoc t.ranks k hkk] at hq
   rcases List.mem_append.1 hq with hq | hq
   ·exact hrs q hq
   ·have : q = t.ranks[k] := by simpa using hq
    rw [this]; omega
  ·simp only; omega
 have hkl : k = t.ranks.length := by omega
 rw [hkl, List.take_length] at hrs
 exact ⟨⟨false, rfl, fun _ => ⟨by omega, by omega, by omega, by omega, hps, hls, hrs⟩⟩, hc⟩
theorem vast9_calls {h : Heap} {v u : Value} {l : List RX} {d : List ByteArray} (hv : SL encX h v l) (hu : SL encS h u d) (g : GX h l) (f : XFit l) (fd : SFit d) :
  CallsH Tryz.prog 12 [v, u] h (Ret fun r h' => (∃ b, r = .bool b ∧ (b = false → NVast l ∧ SSmall d)) ∧ Chg [] h h') := by
 have fl := f.len
 have fdl := fd.len
 obtain ⟨a, c, rfl, hlc⟩ := hv.form
 obtain ⟨a', c', rfl, hlc'⟩ := hu.form
 have yes : ∀ h', Chg [] h h' → Ret (fun r h' => (∃ b, r = .bool b ∧ (b = false → NVast l ∧ SSmall d)) ∧ Chg [] h h') (.returned (retV [Value.bool true])) h' := fun h' hc => ⟨⟨true, rfl, fun h => by cases h⟩, hc⟩
 refine f12_calls (by simp) ?_
 refine Ai rfl (Ai (fun _ => yes h (Chg.refl h)) (fun n1 => ?_))
 refine Ai rfl (Ai (fun _ => yes h (Chg.refl h)) (fun n2 => ?_))
 refine loop_intro (fun k : Nat => [(0, .slice a l.length c), (1, .slice a' d.length c'), (5, .int .i64 k)]) (fun k h' => k ≤ l.length ∧ Chg [] h h' ∧ ∀ x ∈ l.take k, x.key.size ≤ 300 ∧ Small x.thing) (fun k => l.length - k) 0
  ⟨rfl, rfl, rfl, trivial⟩ ⟨Nat.zero_le _, Chg.refl h, by simp⟩ ?_
 rintro k h1 ⟨hk, hc1, hall⟩
 have hv1 := hv.ext hc1
 refine Ai rfl (Ai (fun ht => ?_) (fun ht => ?_))
 ·have hlt : k < l.length := by omega
  obtain ⟨b, o, rfl⟩ := hv1.addr (by omega)
  have hcs := hv1.cells encX_len (i := k) (x := l[k]) (by simp [hlt])
  have hmem : l[k] ∈ l := List.getElem_mem hlt
  have hkz := f.keys _ hmem
  refine Ai (by omega) (Ai (by omega) (Ei _ (Ai (hcs 0 _ rfl) ?_)))
  refine Ai rfl (Ai (fun _ => yes h1 hc1) (fun n3 => ?_))
  refine Ai (by omega) (Ai (by omega) (Ei l[k].vs (Ai l[k].len (Ai (cells_vs hcs) ?_))))
  refine call_ret (large9_calls ((g.ext hc1) _ hmem) (f.fits _ hmem) (f.sized _ hmem)) ?_
  rintro _ h2 ⟨⟨b2, rfl, hsm⟩, hc2⟩
  cases b2 with
  |true => exact yes h2 (hc1.nil hc2)
  |false =>
   refine Ai rfl (fun z hz => ?_)
   have hz := add_in hz (by omega) (by omega)
   subst hz
   refine Ai rfl (Ei (k + 1) (Ai ?_ (Ai ?_ ?_)))
   ·exact ⟨rfl, rfl, rfl, trivial⟩
   ·refine ⟨by omega, hc1.nil hc2, fun x hx => ?_⟩
    rw [take_snoc l k hlt, List.mem_append, List.mem_singleton] at hx
    rcases hx with hx | rfl
    ·exact hall x hx
    ·exact ⟨by omega, hsm rfl⟩
   ·omega
 have hkl : k = l.length := by omega
 rw [hkl, List.take_length] at hall
 clear hkl ht hk hv1
 have nv : NVast l := ⟨by omega, fun x hx => (hall x hx).1, fun x hx => (hall x hx).2⟩
 refine loop_intro (fun k : Nat => [(1, .slice a' d.length c'), (6, .int .i64 k)]) (fun k h' => k ≤ d.length ∧ Chg [] h h' ∧ ∀ e ∈ d.take k, e.size ≤ 300) (fun k => d.length - k) 0
  ⟨rfl, rfl, trivial⟩ ⟨Nat.zero_le _, hc1, by simp⟩ ?_
 clear k hc1
 rintro k h1 ⟨hk, hc1, hall⟩
 have hu1 := hu.ext hc1
 refine Ai rfl (Ai (fun ht => ?_) (fun ht => ?_))
 ·have hlt : k < d.length := by omega
  obtain ⟨b, o, rfl⟩ := hu1.addr (by omega)
  have hcs := hu1.cells encS_len (i := k) (x := d[k]) (by simp [hlt])
  have z1 := fd.each _ (List.getElem_mem hlt)
  refine Ai (by omega) (Ai (by omega) (Ei _ (Ai (hcs 0 _ rfl) ?_)))
  refine Ai rfl (Ai (fun _ => yes h1 hc1) (fun n3 => ?_))
  refine Ai rfl (fun z hz => ?_)
  have hz := add_in hz (by omega) (by omega)
  subst hz
  refine Ai rfl (Ei (k + 1) (Ai ?_ (Ai ?_ ?_)))
  ·exact ⟨rfl, rfl, trivial⟩
  ·refine ⟨by omega, hc1, fun x hx => ?_⟩
   rw [take_snoc d k hlt, List.mem_append, List.mem_singleton] at hx
   rcases hx with hx | rfl
   ·exact hall x hx
   ·omega
  ·omega
 have hkl : k = d.length := by omega
 rw [hkl, List.take_length] at hall
 exact ⟨⟨false, rfl, fun _ => ⟨nv, ⟨by omega, hall⟩⟩⟩, hc1⟩
theorem known9_ret {h : Heap} : CallsH Tryz.prog 13 [] h (Ret fun r h' => r = .bool true ∧ Chg [] h h') := by
 refine f13_calls (by simp) ?_
 refine call_ret New_calls ?_
 rintro _ h1 ⟨kb, sb, mb, rfl, ks, hm, _, _, _, c1⟩
 have kr : KR h1 kb sb mb 0 [] := ⟨ks, hm, by simp, by simp, by simp, by simp, by simp, by simp⟩
 have hs : Sorted [] [] := ⟨List.Pairwise.nil, by simp⟩
 intro b2 h2 g2
 have sa : SL encS h2 (.slice (some ⟨b2, 0, none⟩) 3 3) [⟨#[115, 97, 100, 100]⟩, ⟨#[97]⟩, ⟨#[109]⟩] := by
  refine ⟨_, 3, rfl, Nat.le_refl _, ?_⟩
  exact cells_blk g2.blk
 have s9 : S9 [] := fun p hp => (nomatch hp)
 have hin : InS [] := fun p hp => (nomatch hp)
 refine call_ret (do9_calls (now := 0) (kr.ext g2.chg) sa (by simp) (by decide) (by kernel_rfl) fun h3 ab av' hx x => sadd9 ⟨kr.ext g2.chg, hs, hx⟩ s9 hin (fun s hs => ?_) x) ?_
 ·simp at hs
  rcases hs with rfl | rfl <;> decide
 rintro r h3 ⟨c3, hr⟩
 have e : cSadd [] 0 [⟨#[97]⟩, ⟨#[109]⟩] = .ok (rep 3 1 noText, [addE ⟨#[97]⟩ ⟨#[109]⟩]) := by kernel_rfl
 rw [e] at hr
 obtain ⟨vq, lv, rfl, ⟨ra, rn, rc, rfl, sl, fr⟩, hsl, hfr⟩ := hr
 obtain ⟨la, lc, rfl, _⟩ := hsl.form
 obtain ⟨lb, lo, rfl⟩ := hsl.addr (by simp)
 intro b9 h4 g4
 have w := (St.start h3).new g4
 refine w.st1 0 rfl rfl rfl rfl fun h5 w => ?_
 have hcs := (hsl.ext w.chg).cells encD_len (i := 0) (x := addE ⟨#[97]⟩ ⟨#[109]⟩) rfl
 refine w.ld1 0 rfl rfl ?_
 refine Ai rfl (Ai (fun _ => ?_) (fun hne => absurd rfl hne))
 refine w.ld1 0 rfl rfl ?_
 refine Ai rfl (Ai (fun _ => ?_) (fun hne => absurd rfl hne))
 refine Ai rfl (Ai (fun _ => ?_) (fun hne => absurd rfl hne))
 refine Ai (by decide) (Ai (by simp) (Ei _ (Ai (by simpa using hcs 0 _ rfl) ?_)))
 refine Ai rfl (Ai (fun _ => ?_) (fun hne => absurd rfl hne))
 refine Ai (by decide) (Ai (by simp) (Ei _ (Ai (by simpa using hcs 2 _ rfl) ?_)))
 refine Ai (fun _ => ?_) (fun hne => absurd rfl hne)
 exact ⟨rfl, ((c1.nil g2.chg).nil c3).nil w.chg⟩
theorem kn9 {h h2 : Heap} {K : Value → Heap → Prop} {Qp : List PanicEntry → Heap → Prop} (c2 : Chg [] h h2) (hK : ∀ h', Chg [] h h' → K (.bool true) h') : CallsH Tryz.prog 13 [] h2 (after K Qp) :=
 call_ret known9_ret fun v h' hv => by rw [hv.1]; exact hK h' (c2.nil hv.2)
theorem with9_calls {h : Heap} {av nv : Value} {A N : List ByteArray} (ho : OL encS 1 h av A) (hs : SL encS h nv N) (hl : A.length + N.length ≤ 1000) : CallsH Tryz.prog 15 [nv, av] h (Ret fun r h' => SL encS h' r (A ++ N) ∧ Chg (vblk av) h h') := by
 obtain ⟨a, c, rfl, _⟩ := ho.form
 obtain ⟨a', c', rfl, _⟩ := hs.form
 refine f15_calls (by simp) ?_
 refine app_own encS_len encS_one rfl ho hs (by omega) fun v' h' ho' hc hb => ?_
 exact ⟨ho'.sl, hc⟩
theorem avast9_calls {h : Heap} {nv : Value} {N : List ByteArray} {s u : ByteArray} (hs : SL encS h nv N) (fd : SFit N) (z1 : s.size < 4611686018427387904) (z2 : u.size < 4611686018427387904) : CallsH Tryz.prog 11 [.agg ⟨[nv, .string s, .string u]⟩] h
  (Ret fun r h' => (∃ b, r = .bool b ∧ (b = false → N.length ≤ 6 ∧ (∀ x ∈ N, x.size ≤ 300) ∧ s.size ≤ 300 ∧ u.size ≤ 300)) ∧ Chg [] h h') := by
 obtain ⟨a, c, rfl, _⟩ := hs.form
 have gn : GX h [] := fun x hx => (nomatch hx)
 have fx : XFit [] := ⟨by decide, fun x hx => (nomatch hx), fun x hx => (nomatch hx), fun x hx => (nomatch hx)⟩
 have fl := fd.len
 refine f11_calls (by simp) ?_
 intro b1 h1 g1
 have w := (St.start h).new g1
 refine w.ld1 0 rfl rfl ?_
 refine Ai rfl (Ai (fun hgt => ?_) (fun hle => ?_))
 ·exact ⟨⟨true, rfl, fun hb => by cases hb⟩, w.chg⟩
 refine w.ld1 0 rfl rfl ?_
 refine call_ret (vast9_calls SL.nil (hs.ext w.chg) (gn.ext w.chg) fx fd) ?_
 rintro _ h2 ⟨⟨b, rfl, hb⟩, c2⟩
 have w := w.ext c2
 cases b with
 |true => exact ⟨⟨true, rfl, fun hb => by cases hb⟩, w.chg⟩
 |false =>
  refine w.ld1 0 rfl rfl ?_
  refine w.ld1 0 rfl rfl ?_
  intro b3 h3 g3
  have w := w.ext g3.chg
  refine call_ret (vast9_calls SL.nil (d := [s, u]) ⟨_, 2, rfl, Nat.le_refl _, by exact cells_blk g3.blk⟩ (gn.ext w.chg) fx ⟨by simp, fun e he => by simp at he; rcases he with rfl | rfl <;> assumption⟩) ?_
  rintro _ h4 ⟨⟨b', rfl, hb'⟩, c4⟩
  have w := w.ext c4
  cases b' with
  |true => exact ⟨⟨true, rfl, fun hb => by cases hb⟩, w.chg⟩
  |false => exact ⟨⟨false, rfl, fun _ => ⟨by omega, (hb rfl).2.each, (hb' rfl).2.each s (by simp), (hb' rfl).2.each u (by simp)⟩⟩, w.chg⟩
abbrev v7 (tx : Thing) (pv lv rv : Value) : List Value := [.int .i64 tx.kind, .string tx.text, pv, lv, rv, .bool tx.hasU, .int .i64 tx.unt]
abbrev mkX (kx : ByteArray) (tx : Thing) (pv lv rv : Value) (ox : ∀ u ∈ v7 tx pv lv rv, u.oneCell' = true) : RX := ⟨kx, tx, v7 tx pv lv rv, rfl, ox⟩
set_option maxHeartbeats 2000000 in
theorem CollsList_go {h : Heap} {kx : ByteArray} {tx : Thing} {pv lv rv : Value} {ox : ∀ u ∈ v7 tx pv lv rv, u.oneCell' = true} {nv : Value} {N : List ByteArray} {s u : ByteArray} {now : Int} (hx : TH h (v7 tx pv lv rv) tx) (hxf : XFit [(mkX kx tx pv lv rv ox)]) (hun : In64 tx.unt) (hri : ∀ r ∈ tx.ranks, In64 r.score) (hs : SL encS h nv N) (fd : SFit N) (z1 : s.size < 4611686018427387904) (z2 : u.size < 4611686018427387904) (hla : LaidN h) (ht : K5.TabH h) :
  CallsH Tryz.prog 3 [.agg ⟨encX (mkX kx tx pv lv rv ox)⟩, .int .i64 now, .agg ⟨[nv, .string s, .string u]⟩] h (Ret fun r h' => r = .bool true ∧ Chg [] h h') := by
 obtain ⟨na, nc, rfl, _⟩ := hs.form
 have gX : GX h [(mkX kx tx pv lv rv ox)] := fun y hy => by rw [List.mem_singleton.1 hy]; exact hx
 have unX : ∀ y ∈ [(mkX kx tx pv lv rv ox)], In64 y.thing.unt := fun y hy => by rw [List.mem_singleton.1 hy]; exact hun
 have riX : ∀ y ∈ [(mkX kx tx pv lv rv ox)], ∀ r ∈ y.thing.ranks, In64 r.score := fun y hy => by rw [List.mem_singleton.1 hy]; exact hri
 refine f3_calls (by simp) ?_
 intro b3 h1 g1
 have w : St [] h h1 [.b b3 (encX (mkX kx tx pv lv rv ox))] := (St.start h).new g1
 intro b5 h2 g2
 have w := w.new g2
 refine w.ldw 1 rfl (encX_len (mkX kx tx pv lv rv ox)) ?_
 intro b7 h3 g3
 have w := w.new g3
 have hv : ∀ {h'}, Chg [] h3 h' → SL encX h' (.slice (some ⟨b7, 0, none⟩) 1 1) [(mkX kx tx pv lv rv ox)] := fun hc => (SL.one encX_len (show Blk h3 b7 (encX (mkX kx tx pv lv rv ox)) from g3.blk)).ext hc
 refine w.ldw 1 rfl rfl ?_
 refine call_ret (avast9_calls (hs.ext w.chg) fd z1 z2) ?_
 rintro _ h4 ⟨⟨b, rfl, hb⟩, c4⟩
 have w := w.ext c4
 have c34 : Chg [] h3 h4 := c4
 cases b with
 |true => exact kn9 w.chg fun h' c => Ai rfl c
 |false =>
  obtain ⟨n6, n300, zs, zu⟩ := hb rfl
  refine call_ret (vast9_calls (hv c34) SL.nil (gX.ext w.chg) hxf ⟨by decide, fun e he => (nomatch he)⟩) ?_
  rintro _ h5 ⟨⟨b', rfl, hb'⟩, c5⟩
  have w := w.ext c5
  have c35 := c34.nil c5
  cases b' with
  |true => exact kn9 w.chg fun h' c => Ai rfl c
  |false =>
   obtain ⟨nv, _⟩ := hb' rfl
   have zk : kx.size ≤ 300 := nv.keys (mkX kx tx pv lv rv ox) (by simp)
   have K0 : ∀ {v : Value}, (encX (mkX kx tx pv lv rv ox))[0]? = some v → v = .string kx := fun h => (Option.some.inj h).symm
   have hz9 : ∀ a ∈ kx :: N, a.size ≤ 300 := fun a ha => by
    rcases List.mem_cons.1 ha with rfl | ha
    ·exact zk
    ·exact n300 a ha
   have w0 := w
   -- LPUSH
   refine w.ld1 1 rfl rfl ?_
   refine w.ld1 2 rfl (rfl : (encX (mkX kx tx pv lv rv ox))[0]? = some (.string kx)) ?_
   intro b11 h11 g11
   have w := w.ext g11.chg
   refine call_ret (with9_calls (A := [vLPUSH, kx]) (OL.mk (rest := []) rfl (Nat.le_refl _) (by exact g11.blk) rfl) (hs.ext w.chg) (by simp only [List.length_cons, List.length_nil]; omega)) ?_
   rintro rv12 h12 ⟨sa12, c12⟩
   have i11 := g11.id
   have d12 : Chg [] h5 h12 := g11.chg.fresh c12 (fun k hk => by have hk : k = b11 := (by simpa [vblk, ablk] using hk); omega)
   have c12' := c35.nil d12
   have w := w0.ext d12
   refine call_ret (does9_calls (AA := vLPUSH :: kx :: N) (hv c12') (gX.ext w.chg) nv unX riX (hla.ext w.chg) (tab9 ht w.chg) sa12 (byP_LPUSH n6 (fun a ha => hz9 a ha)) (byR_LPUSH n6 (fun a ha => hz9 a ha)) (sh_LPUSH n6)) ?_
   rintro _ h13 ⟨rfl, c13⟩
   have w := w.ext c13
   have w0 := w
   have c13' := c12'.nil c13
   -- RPUSH
   refine w.ld1 1 rfl rfl ?_
   refine w.ld1 2 rfl (rfl : (encX (mkX kx tx pv lv rv ox))[0]? = some (.string kx)) ?_
   intro b14 h14 g14
   have w := w.ext g14.chg
   refine call_ret (with9_calls (A := [vRPUSH, kx]) (OL.mk (rest := []) rfl (Nat.le_refl _) (by exact g14.blk) rfl) (hs.ext w.chg) (by simp only [List.length_cons, List.length_nil]; omega)) ?_
   rintro rv15 h15 ⟨sa15, c15⟩
   have i14 := g14.id
   have d15 : Chg [] h13 h15 := g14.chg.fresh c15 (fun k hk => by have hk : k = b14 := (by simpa [vblk, ablk] using hk); omega)
   have c15' := c13'.nil d15
   have w := w0.ext d15
   refine call_ret (does9_calls (AA := vRPUSH :: kx :: N) (hv c15') (gX.ext w.chg) nv unX riX (hla.ext w.chg) (tab9 ht w.chg) sa15 (byP_RPUSH n6 (fun a ha => hz9 a ha)) (byR_RPUSH n6 (fun a ha => hz9 a ha)) (sh_RPUSH n6)) ?_
   rintro _ h16 ⟨rfl, c16⟩
   have w := w.ext c16
   have w0 := w
   have c16' := c15'.nil c16
   -- LPOP
   refine w.ld1 2 rfl (rfl : (encX (mkX kx tx pv lv rv ox))[0]? = some (.string kx)) ?_
   intro b17 h17 g17
   have c17' := c16'.nil g17.chg
   have w := w.ext g17.chg
   refine call_ret (does9_calls (AA := [vLPOP, kx]) (hv c17') (gX.ext w.chg) nv unX riX (hla.ext w.chg) (tab9 ht w.chg) (show SL encS h17 (.slice (some ⟨b17, 0, none⟩) 2 2) [vLPOP, kx] from ⟨_, 2, rfl, Nat.le_refl _, by exact cells_blk g17.blk⟩) (byP_LPOP (fun a ha => by simp at ha; rcases ha with rfl <;> assumption)) (byR_LPOP (fun a ha => by simp at ha; rcases ha with rfl <;> assumption)) sh_LPOP) ?_
   rintro _ h18 ⟨rfl, c18⟩
   have w := w.ext c18
   have c18' := c17'.nil c18
   -- RPOP
   refine w.ld1 2 rfl (rfl : (encX (mkX kx tx pv lv rv ox))[0]? = some (.string kx)) ?_
   intro b19 h19 g19
   have c19' := c18'.nil g19.chg
   have w := w.ext g19.chg
   refine call_ret (does9_calls (AA := [vRPOP, kx]) (hv c19') (gX.ext w.chg) nv unX riX (hla.ext w.chg) (tab9 ht w.chg) (show SL encS h19 (.slice (some ⟨b19, 0, none⟩) 2 2) [vRPOP, kx] from ⟨_, 2, rfl, Nat.le_refl _, by exact cells_blk g19.blk⟩) (byP_RPOP (fun a ha => by simp at ha; rcases ha with rfl <;> assumption)) (byR_RPOP (fun a ha => by simp at ha; rcases ha with rfl <;> assumption)) sh_RPOP) ?_
   rintro _ h20 ⟨rfl, c20⟩
   have w := w.ext c20
   have c20' := c19'.nil c20
   -- LLEN
   refine w.ld1 2 rfl (rfl : (encX (mkX kx tx pv lv rv ox))[0]? = some (.string kx)) ?_
   intro b21 h21 g21
   have c21' := c20'.nil g21.chg
   have w := w.ext g21.chg
   refine call_ret (does9_calls (AA := [vLLEN, kx]) (hv c21') (gX.ext w.chg) nv unX riX (hla.ext w.chg) (tab9 ht w.chg) (show SL encS h21 (.slice (some ⟨b21, 0, none⟩) 2 2) [vLLEN, kx] from ⟨_, 2, rfl, Nat.le_refl _, by exact cells_blk g21.blk⟩) (byP_LLEN (fun a ha => by simp at ha; rcases ha with rfl <;> assumption)) (byR_LLEN (fun a ha => by simp at ha; rcases ha with rfl <;> assumption)) sh_LLEN) ?_
   rintro _ h22 ⟨rfl, c22⟩
   have w := w.ext c22
   have c22' := c21'.nil c22
   -- LINDEX
   refine w.ld1 2 rfl (rfl : (encX (mkX kx tx pv lv rv ox))[0]? = some (.string kx)) ?_
   refine w.ld1 1 rfl rfl ?_
   intro b23 h23 g23
   have c23' := c22'.nil g23.chg
   have w := w.ext g23.chg
   refine call_ret (does9_calls (AA := [vLINDEX, kx, s]) (hv c23') (gX.ext w.chg) nv unX riX (hla.ext w.chg) (tab9 ht w.chg) (show SL encS h23 (.slice (some ⟨b23, 0, none⟩) 3 3) [vLINDEX, kx, s] from ⟨_, 3, rfl, Nat.le_refl _, by exact cells_blk g23.blk⟩) (byP_LINDEX (fun a ha => by simp at ha; rcases ha with rfl | rfl <;> assumption)) (byR_LINDEX (fun a ha => by simp at ha; rcases ha with rfl | rfl <;> assumption)) sh_LINDEX) ?_
   rintro _ h24 ⟨rfl, c24⟩
   have w := w.ext c24
   have c24' := c23'.nil c24
   -- LRANGE
   refine w.ld1 2 rfl (rfl : (encX (mkX kx tx pv lv rv ox))[0]? = some (.string kx)) ?_
   refine w.ld1 1 rfl rfl ?_
   refine w.ld1 1 rfl rfl ?_
   intro b25 h25 g25
   have c25' := c24'.nil g25.chg
   have w := w.ext g25.chg
   refine call_ret (does9_calls (AA := [vLRANGE, kx, s, u]) (hv c25') (gX.ext w.chg) nv unX riX (hla.ext w.chg) (tab9 ht w.chg) (show SL encS h25 (.slice (some ⟨b25, 0, none⟩) 4 4) [vLRANGE, kx, s, u] from ⟨_, 4, rfl, Nat.le_refl _, by exact cells_blk g25.blk⟩) (byP_LRANGE (fun a ha => by simp at ha; rcases ha with rfl | rfl | rfl <;> assumption)) (byR_LRANGE (fun a ha => by simp at ha; rcases ha with rfl | rfl | rfl <;> assumption)) sh_LRANGE) ?_
   rintro _ h26 ⟨rfl, c26⟩
   have w := w.ext c26
   have c26' := c25'.nil c26
   -- LSET
   refine w.ld1 2 rfl (rfl : (encX (mkX kx tx pv lv rv ox))[0]? = some (.string kx)) ?_
   refine w.ld1 1 rfl rfl ?_
   refine w.ld1 1 rfl rfl ?_
   intro b27 h27 g27
   have c27' := c26'.nil g27.chg
   have w := w.ext g27.chg
   refine call_ret (does9_calls (AA := [vLSET, kx, s, u]) (hv c27') (gX.ext w.chg) nv unX riX (hla.ext w.chg) (tab9 ht w.chg) (show SL encS h27 (.slice (some ⟨b27, 0, none⟩) 4 4) [vLSET, kx, s, u] from ⟨_, 4, rfl, Nat.le_refl _, by exact cells_blk g27.blk⟩) (byP_LSET (fun a ha => by simp at ha; rcases ha with rfl | rfl | rfl <;> assumption)) (byR_LSET (fun a ha => by simp at ha; rcases ha with rfl | rfl | rfl <;> assumption)) sh_LSET) ?_
   rintro _ h28 ⟨rfl, c28⟩
   have w := w.ext c28
   have c28' := c27'.nil c28
   refine call_ret known9_ret ?_
   rintro _ h9 ⟨rfl, c9⟩
   exact Ai rfl (w.chg.nil c9)
theorem CollsList_calls {h : Heap} {x : RX} {nv : Value} {N : List ByteArray} {s u : ByteArray} {now : Int} (hx : TH h x.vs x.thing) (hxf : XFit [x]) (hun : In64 x.thing.unt) (hri : ∀ r ∈ x.thing.ranks, In64 r.score) (hs : SL encS h nv N) (fd : SFit N) (z1 : s.size < 4611686018427387904) (z2 : u.size < 4611686018427387904) (hla : LaidN h) (ht : K5.TabH h) :
  CallsH Tryz.prog 3 [.agg ⟨encX x⟩, .int .i64 now, .agg ⟨[nv, .string s, .string u]⟩] h (Ret fun r h' => r = .bool true ∧ Chg [] h h') := by
 obtain ⟨kx, tx, vx, lx, ox⟩ := x
 obtain ⟨pv, lv, rv, hvx, hr⟩ := id hx
 have hvx : vx = v7 tx pv lv rv := hvx
 subst hvx
 exact CollsList_go (ox := ox) hx hxf hun hri hs fd z1 z2 hla ht
end Go.Proofs.YtjnijlnmbjjgpaaGreatDoor
namespace Go.Proofs.YtjnijlnmbjjgpaaGreatDoor
open Go Go.Sx Go.ChangeShapes Go.WideShapes Go.ChangeAt Go.RowKit
theorem own : ownKnob Tryz.prog.godebug = none := by kernel_rfl
theorem laidOut : laidOutB Tryz.prog = true := by kernel_rfl
def tab32 : List Int := [0, 1, 28, 2, 29, 14, 24, 3, 30, 22, 20, 15, 25, 17, 4, 8, 31, 27, 13, 23, 21, 19, 16, 7, 26, 12, 18, 6, 11, 5, 10, 9]
def tab64 : List Int := [0, 1, 56, 2, 57, 49, 28, 3, 61, 58, 42, 50, 38, 29, 17, 4, 62, 47, 59, 36, 45, 43, 51, 22, 53, 39, 33, 30, 24, 18, 12, 5, 63, 55, 48, 27, 60, 41, 37, 16, 46, 35, 44, 21, 52, 32, 23, 11, 54, 26, 40, 15, 34, 20, 31, 10, 25, 14, 19, 9, 13, 8, 7, 6]
def pow10 : List Int := [1, 10, 100, 1000, 10000, 100000, 1000000, 10000000, 100000000, 1000000000, 10000000000, 100000000000, 1000000000000, 10000000000000, 100000000000000, 1000000000000000, 10000000000000000, 100000000000000000, 1000000000000000000, 10000000000000000000]
def wordRange : ByteArray := ⟨#[118, 97, 108, 117, 101, 32, 111, 117, 116, 32, 111, 102, 32, 114, 97, 110, 103, 101]⟩
def wordSyntax : ByteArray := ⟨#[105, 110, 118, 97, 108, 105, 100, 32, 115, 121, 110, 116, 97, 120]⟩
def laid5 : List (String × DataW Unit) := [("math/bits.deBruijn32tab", Rows.laid_math_bits_deBruijn32tab), ("math/bits.deBruijn64tab", Rows.laid_math_bits_deBruijn64tab), ("internal/strconv.uint64pow10", Rows.laid_internal_strconv_uint64pow10), ("strconv.ErrRange", Rows.laid_strconv_ErrRange), ("strconv.ErrSyntax", Rows.laid_strconv_ErrSyntax)]
def putTab (vs : Array Value) : Obj → Obj
 |.cells _ t frozen => .cells vs t frozen
 |o => o
noncomputable def bare (os : Os) : World := World.holding Tryz.prog os ⟨#[], #[], []⟩
noncomputable def laidWorld (os : Os) : World :=
 { bare os with heap := ((((((bare os).heap.modify 2 (putTab (tab32.map fun z => Value.int .u8 z).toArray)).modify 3 (putTab (tab64.map fun z => Value.int .u8 z).toArray)).modify 0 (putTab (pow10.map fun z => Value.int .u64 z).toArray)).modify 5
  (putTab #[.iface 348 (.pointer (some ⟨(bare os).heap.size, 0, none⟩))])).modify 4 (putTab #[.iface 348 (.pointer (some ⟨(bare os).heap.size + 1, 0, none⟩))])) ++
  #[.cells #[.string wordRange] 350 (0, 0), .cells #[.string wordSyntax] 350 (0, 0)] }
theorem laid_met (os : Os) (args : Array Value) : laidMet Tryz.prog laid5 ((laidWorld os).forCall (fun _ _ => 0) ⟨#[], args, []⟩).memory :=
 laidMet_of_run' 8 (by kernel_rfl) (by kernel_rfl)
theorem int_arg {P : Program} {W : World} {b0 : Nat} {r : Reach} {t : TypeId} {v : Value} (ht : P.underlying t = some (.int .i64)) (hval : Value.okWide P W r b0 t v) :
  ∃ n, v = .int .i64 n := by
 simp only [Value.okWide, Cell.okWide, Cell.ok, ht] at hval
 split at hval <;> simp_all
theorem len2 {α : Type} {l : List α} (h : l.length = 2) : ∃ a b, l = [a, b] := by
 match l, h with
 |[a, b], _ => exact ⟨a, b, rfl⟩
theorem len7 {α : Type} {l : List α} (h : l.length = 7) : ∃ a0 a1 a2 a3 a4 a5 a6, l = [a0, a1, a2, a3, a4, a5, a6] := by
 match l, h with
 |[a0, a1, a2, a3, a4, a5, a6], _ => exact ⟨a0, a1, a2, a3, a4, a5, a6, rfl⟩
theorem len8 {α : Type} {l : List α} (h : l.length = 8) : ∃ a0 a1 a2 a3 a4 a5 a6 a7, l = [a0, a1, a2, a3, a4, a5, a6, a7] := by
 match l, h with
 |[a0, a1, a2, a3, a4, a5, a6, a7], _ => exact ⟨a0, a1, a2, a3, a4, a5, a6, a7, rfl⟩
section
variable {H : Type} {enc : TypeId × Value → H} {W : World} {base n : Nat} {sp : Nat → Bool} {held : Bool} {cs : List Value} {x : DataW H × List MemPlace}
theorem open_rank (h : DataW.trod enc Tryz.prog W base sp held n 110 cs = some x) (hw : Wts Tryz.prog 110 x.1) : ∃ a : Rank, cs = encR a ∧ a.name.size < 1000000000000000000 ∧ (-9223372036854775808 ≤ a.score ∧ a.score ≤ 9223372036854775807) := by
 obtain ⟨xs, m, rfl, hx, hl, hls, hi⟩ := DataW.trod_struct Tryz.underlying110 h
 have c9 : Tryz.prog.cellsOf 9 = 1 := by kernel_rfl
 have c2 : Tryz.prog.cellsOf 2 = 1 := by kernel_rfl
 have cc : Tryz.prog.cellsOf 110 = 2 := by kernel_rfl
 rw [cc] at hl
 obtain ⟨u, v, rfl⟩ := len2 hl
 obtain ⟨y, z, rfl⟩ := len2 (l := xs) hls
 have h0 := fld hi 0 9 0 1 rfl rfl rfl c9 rfl rfl
 have h1 := fld hi 1 2 1 1 rfl rfl rfl c2 rfl rfl
 have hw0 : Wts Tryz.prog 9 y.1 := by
  intro k hk
  refine hw k ?_
  rw [hx]
  simp only [DataW.weights, Tryz.underlying110, List.map_cons, List.map_nil, DataW.weightsEach, List.mem_append]
  exact .inl hk
 obtain ⟨nm, e0, hs⟩ := str_of_trod Tryz.underlying9 h0 hw0
 obtain ⟨k, e1, _, wf1⟩ := DataW.trod_int Tryz.underlying2 h1
 have un1 : -9223372036854775808 ≤ k ∧ k ≤ 9223372036854775807 := by
  unfold Lit.wf at wf1
  simp only [Bool.and_eq_true, decide_eq_true_eq] at wf1
  exact wf1
 obtain ⟨rfl⟩ := e0
 obtain ⟨rfl⟩ := e1
 have := reachBytes_lt
 exact ⟨⟨nm, k⟩, rfl, by show nm.size < _; omega, un1⟩
theorem open_pair (h : DataW.trod enc Tryz.prog W base sp held n 108 cs = some x) (hw : Wts Tryz.prog 108 x.1) : ∃ a : Pair, cs = encP a ∧ a.name.size < 1000000000000000000 ∧ a.text.size < 1000000000000000000 := by
 obtain ⟨xs, m, rfl, hx, hl, hls, hi⟩ := DataW.trod_struct Tryz.underlying108 h
 have c9 : Tryz.prog.cellsOf 9 = 1 := by kernel_rfl
 have cc : Tryz.prog.cellsOf 108 = 2 := by kernel_rfl
 rw [cc] at hl
 obtain ⟨u, v, rfl⟩ := len2 hl
 obtain ⟨y, z, rfl⟩ := len2 (l := xs) hls
 have h0 := fld hi 0 9 0 1 rfl rfl rfl c9 rfl rfl
 have h1 := fld hi 1 9 1 1 rfl rfl rfl c9 rfl rfl
 have hw0 : Wts Tryz.prog 9 y.1 := by
  intro k hk
  refine hw k ?_
  rw [hx]
  simp only [DataW.weights, Tryz.underlying108, List.map_cons, List.map_nil, DataW.weightsEach, List.mem_append]
  exact .inl hk
 have hw1 : Wts Tryz.prog 9 z.1 := by
  intro k hk
  refine hw k ?_
  rw [hx]
  simp only [DataW.weights, Tryz.underlying108, List.map_cons, List.map_nil, DataW.weightsEach, List.mem_append]
  exact .inr (.inl hk)
 obtain ⟨nm, e0, hs⟩ := str_of_trod Tryz.underlying9 h0 hw0
 obtain ⟨tx, e1, hs1⟩ := str_of_trod Tryz.underlying9 h1 hw1
 obtain ⟨rfl⟩ := e0
 obtain ⟨rfl⟩ := e1
 have := reachBytes_lt
 exact ⟨⟨nm, tx⟩, rfl, by show nm.size < _; omega, by show tx.size < _; omega⟩
theorem open_s (h : DataW.trod enc Tryz.prog W base sp held n 9 cs = some x) (hw : Wts Tryz.prog 9 x.1) : ∃ a : ByteArray, cs = encS a ∧ a.size < 1000000000000000000 := by
 obtain ⟨nm, e0, hs⟩ := str_of_trod Tryz.underlying9 h hw
 have := reachBytes_lt
 exact ⟨nm, e0, by omega⟩
set_option maxRecDepth 100000 in
theorem open_thing (h : DataW.trod enc Tryz.prog W base sp held n 27 cs = some x) (hw : Wts Tryz.prog 27 x.1) :
  ∃ t : Thing, TH W.heap cs t ∧ Fits t ∧ Sized t ∧ cs.length = 7 ∧ (-9223372036854775808 ≤ t.unt ∧ t.unt ≤ 9223372036854775807) ∧ ∀ r ∈ t.ranks, -9223372036854775808 ≤ r.score ∧ r.score ≤ 9223372036854775807 := by
 obtain ⟨xs, m, rfl, hx, hl, hls, hi⟩ := DataW.trod_struct Tryz.underlying27 h
 have hd : x.1 = .agg (xs.map (·.1)) := congrArg Prod.fst hx
 have c9 : Tryz.prog.cellsOf 9 = 1 := by kernel_rfl
 have c2 : Tryz.prog.cellsOf 2 = 1 := by kernel_rfl
 have c4 : Tryz.prog.cellsOf 4 = 1 := by kernel_rfl
 have c22 : Tryz.prog.cellsOf 22 = 1 := by kernel_rfl
 have c23 : Tryz.prog.cellsOf 23 = 1 := by kernel_rfl
 have c24 : Tryz.prog.cellsOf 24 = 1 := by kernel_rfl
 have c25 : Tryz.prog.cellsOf 25 = 1 := by kernel_rfl
 have c27 : Tryz.prog.cellsOf 27 = 7 := by kernel_rfl
 rw [c27] at hl
 obtain ⟨a0, a1, a2, a3, a4, a5, a6, rfl⟩ := len7 hl
 obtain ⟨y0, y1, y2, y3, y4, y5, y6, rfl⟩ := len7 (l := xs) hls
 have h0 := fld hi 0 22 0 1 rfl rfl rfl c22 rfl rfl
 have h1 := fld hi 1 9 1 1 rfl rfl rfl c9 rfl rfl
 have h2 := fld hi 2 23 2 1 rfl rfl rfl c23 rfl rfl
 have h3 := fld hi 3 24 3 1 rfl rfl rfl c24 rfl rfl
 have h4 := fld hi 4 25 4 1 rfl rfl rfl c25 rfl rfl
 have h5 := fld hi 5 4 5 1 rfl rfl rfl c4 rfl rfl
 have h6 := fld hi 6 2 6 1 rfl rfl rfl c2 rfl rfl
 have hwk : ∀ (i t : Nat) (y : DataW H × List MemPlace), [22, 9, 23, 24, 25, 4, 2][i]? = some t → [y0, y1, y2, y3, y4, y5, y6][i]? = some y → Wts Tryz.prog t y.1 := by
  intro i t y ht hy k hk
  refine hw k ?_
  rw [hd]
  simp only [DataW.weights, Tryz.underlying27]
  refine DataW.weights_mem_each (j := i) (t := t) (d := y.1) ?_ ?_ k hk
  ·exact ht
  ·rw [List.getElem?_map, hy]; rfl
 obtain ⟨kd, e0, _, _⟩ := DataW.trod_int Tryz.underlying22 h0
 obtain ⟨tx, e1, hs1⟩ := str_of_trod Tryz.underlying9 h1 (hwk 1 9 y1 rfl rfl)
 obtain ⟨lp, sp, gp, np⟩ := open_cell (k := 2) (en := encP) Tryz.underlying23 (by kernel_rfl) (by decide) encP_len (fun n cs x h hw => open_pair h hw) h2 (hwk 2 23 y2 rfl rfl)
 obtain ⟨ll, sl, gl, nl⟩ := open_cell (k := 1) (en := encS) Tryz.underlying24 (by kernel_rfl) (by decide) encS_len (fun n cs x h hw => open_s h hw) h3 (hwk 3 24 y3 rfl rfl)
 obtain ⟨lr, sr, gr, nr⟩ := open_cell (k := 2) (en := encR) Tryz.underlying25 (by kernel_rfl) (by decide) encR_len (fun n cs x h hw => open_rank h hw) h4 (hwk 4 25 y4 rfl rfl)
 obtain ⟨bu, e5, _⟩ := DataW.trod_bool Tryz.underlying4 h5
 obtain ⟨un, e6, _, wf6⟩ := DataW.trod_int Tryz.underlying2 h6
 have un6 : -9223372036854775808 ≤ un ∧ un ≤ 9223372036854775807 := by
  unfold Lit.wf at wf6
  simp only [Bool.and_eq_true, decide_eq_true_eq] at wf6
  exact wf6
 obtain ⟨rfl⟩ := e0
 obtain ⟨rfl⟩ := e1
 obtain ⟨rfl⟩ := e5
 obtain ⟨rfl⟩ := e6
 have b32 : Tryz.prog.bytesOf 108 = 32 := by kernel_rfl
 have b9 : Tryz.prog.bytesOf 9 = 16 := by kernel_rfl
 have b34 : Tryz.prog.bytesOf 110 = 24 := by kernel_rfl
 rw [b32] at np
 rw [b9] at nl
 rw [b34] at nr
 have := reachBytes_lt
 refine ⟨⟨kd, tx, lp, ll, lr, bu, un⟩, ⟨_, _, _, rfl, sp, sl, sr⟩, ⟨?_, ?_, ?_⟩, ⟨?_, gp, gl, fun r hr => (gr r hr).1⟩, rfl, un6, fun r hr => (gr r hr).2⟩
 ·show lp.length < _; omega
 ·show ll.length < _; omega
 ·show lr.length < _; omega
 ·show tx.size < _; omega
structure GoodX (h : Heap) (x : RX) : Prop where
 th : TH h x.vs x.thing
 fits : Fits x.thing
 sized : Sized x.thing
 key : x.key.size < 1000000000000000000
 unt : -9223372036854775808 ≤ x.thing.unt ∧ x.thing.unt ≤ 9223372036854775807
 ri : ∀ r ∈ x.thing.ranks, -9223372036854775808 ≤ r.score ∧ r.score ≤ 9223372036854775807
set_option maxRecDepth 100000 in
theorem open_entry (h : DataW.trod enc Tryz.prog W base sp held n 29 cs = some x) (hw : Wts Tryz.prog 29 x.1) : ∃ a : RX, cs = encX a ∧ GoodX W.heap a := by
 obtain ⟨xs, m, rfl, hx, hl, hls, hi⟩ := DataW.trod_struct Tryz.underlying29 h
 have hd : x.1 = .agg (xs.map (·.1)) := congrArg Prod.fst hx
 have c9 : Tryz.prog.cellsOf 9 = 1 := by kernel_rfl
 have c7 : Tryz.prog.cellsOf 27 = 7 := by kernel_rfl
 have cc : Tryz.prog.cellsOf 29 = 8 := by kernel_rfl
 rw [cc] at hl
 obtain ⟨k0, a0, a1, a2, a3, a4, a5, a6, rfl⟩ := len8 hl
 obtain ⟨y, z, rfl⟩ := len2 (l := xs) hls
 have h0 := fld hi 0 9 0 1 rfl rfl rfl c9 rfl rfl
 have h1 := fld hi 1 27 1 7 rfl rfl rfl c7 rfl rfl
 have hwk : ∀ (i t : Nat) (w : DataW H × List MemPlace), [9, 27][i]? = some t → [y, z][i]? = some w → Wts Tryz.prog t w.1 := by
  intro i t y ht hy k hk
  refine hw k ?_
  rw [hd]
  simp only [DataW.weights, Tryz.underlying29]
  refine DataW.weights_mem_each (j := i) (t := t) (d := y.1) ?_ ?_ k hk
  ·exact ht
  ·rw [List.getElem?_map, hy]; rfl
 obtain ⟨key, e0, hz⟩ := str_of_trod Tryz.underlying9 h0 (hwk 0 9 y rfl rfl)
 obtain ⟨t, th, ft, st, hl7, un, ri⟩ := open_thing h1 (hwk 1 27 z rfl rfl)
 obtain ⟨rfl⟩ := e0
 have := reachBytes_lt
 exact ⟨⟨key, t, _, hl7, thing_one th⟩, rfl, th, ft, st, by show key.size < _; omega, un, ri⟩
end
end Go.Proofs.YtjnijlnmbjjgpaaGreatDoor
namespace Go.Proofs.YtjnijlnmbjjgpaaGreatDoor
open Go Go.Sx Go.ChangeShapes Go.WideShapes Go.ChangeAt Go.RowKit
theorem trod_iface {H : Type} {enc : TypeId × Value → H} {P : Program} {w : World} {base n : Nat} {sp : Nat → Bool} {held : Bool} {t : TypeId} {cs : List Value} {x : DataW H × List MemPlace}
  (ht : (match P.underlying t with | some (.interface _) => true | _ => false) = true) (h : DataW.trod enc P w base sp held n t cs = some x) : ∃ v, cs = [v] ∧ IfaceV v := by
 obtain ⟨ms, ht⟩ : ∃ ms, P.underlying t = some (.interface ms) := by
  split at ht
  ·rename_i ms h1; exact ⟨ms, h1⟩
  ·cases ht
 cases n with
 |zero => simp [DataW.trod] at h
 |succ n =>
  simp only [DataW.trod, ht] at h
  split at h <;> first | exact ⟨_, rfl, .inl rfl⟩ | exact ⟨_, rfl, .inr ⟨_, _, rfl⟩⟩ | (exfalso; simp_all; done)
theorem errV {W : World} {n : String} {gi : Nat} {g : Nat} {t : TypeId} {cs : Array Value} {fuel : Nat} {d : DataW Unit} {p : List MemPlace} (hgi : Tryz.prog.globalNamed n = some gi) (hti : (Tryz.prog.globals[gi]?).map (·.type) = some 244)
  (hg : Tryz.prog.globalNamed n = some g) (ht : (Tryz.prog.globals[g]?).map (·.type) = some t) (hv : W.var? Tryz.prog n = some cs) (h : DataW.trod (fun _ => ()) Tryz.prog W 0 (fun _ => true) false fuel t cs.toList = some (d, p)) :
  ∃ v, cell W.heap gi 0 = some v ∧ IfaceV v := by
 obtain rfl := Option.some.inj (hgi.symm.trans hg)
 obtain rfl := Option.some.inj (hti.symm.trans ht)
 obtain ⟨v, e, hi⟩ := trod_iface (by kernel_rfl) h
 refine ⟨v, ?_, hi⟩
 unfold World.var? at hv
 rw [hgi] at hv
 have hv : (match W.heap[gi]? with | some (.cells cs _ _) => some cs | _ => none) = some cs := hv
 unfold cell
 split at hv
 ·rename_i h1
  injection hv with hv
  subst hv
  rw [h1]
  show (_ : Array Value)[0]? = _
  rw [← Array.getElem?_toList, e]; rfl
 ·cases hv
theorem laidN_of {W : World} (h : laidMetH Tryz.prog laid5 W) : LaidN W.heap := by
 have h : laidMet Tryz.prog laid5 W := h
 obtain ⟨ps, ⟨_, _, _, _, _, _, _, _, _, _, ⟨_, _, _, _, _, _, _, _, _, _, ⟨g, t, cs, fuel, p, q, hg, ht, hv, htr, ⟨g2, t2, cs2, fuel2, p2, q2, hg2, ht2, hv2, htr2, ⟨g3, t3, cs3, fuel3, p3, q3, hg3, ht3, hv3, htr3, _, _⟩, _⟩, _⟩, _⟩, _⟩, _⟩ := h
 refine ⟨?_, errV (by kernel_rfl) (by kernel_rfl) hg3 ht3 hv3 htr3, errV (by kernel_rfl) (by kernel_rfl) hg2 ht2 hv2 htr2⟩
 have hgi : Tryz.prog.globalNamed "internal/strconv.uint64pow10" = some 0 := by kernel_rfl
 have hti : (Tryz.prog.globals[0]?).map (·.type) = some 234 := by kernel_rfl
 obtain rfl := Option.some.inj (hgi.symm.trans hg)
 obtain rfl := Option.some.inj (hti.symm.trans ht)
 have hc := Lib.cells_of_tab (k := .u64) (zs := Lib.pow10Tab) (n := 20) (e := 183) (by kernel_rfl) (by kernel_rfl) (by kernel_rfl) (by kernel_rfl) htr
 unfold World.var? at hv
 rw [hgi] at hv
 have hv : (match W.heap[(0 : Nat)]? with | some (.cells cs _ _) => some cs | _ => none) = some cs := hv
 split at hv
 ·rename_i h1
  injection hv with hv
  subst hv
  exact ⟨_, _, by rw [h1, ← hc]⟩
 ·cases hv
section
variable {H : Type} {enc : TypeId × Value → H} {W : World} {base n : Nat} {sp : Nat → Bool} {held : Bool}
end
end Go.Proofs.YtjnijlnmbjjgpaaGreatDoor
namespace Go.Proofs.YtjnijlnmbjjgpaaGreatDoor
open Go Go.Sx Go.ChangeShapes Go.WideShapes Go.ChangeAt Go.RowKit
theorem g64 : Tryz.prog.globalNamed "math/bits.deBruijn64tab" = some 3 := by kernel_rfl
theorem tab64_in : ∀ i < 64, 0 ≤ tab64.getD i 0 ∧ tab64.getD i 0 ≤ 255 := by decide
theorem laid_tail {P : Program} {W : World} {x : String × DataW Unit} {l : List (String × DataW Unit)} (h : laidMet P (x :: l) W) : ∃ ps, DataW.LaidVars P W l ps := by
 obtain ⟨ps, ⟨g', t', cs, fuel, p, q, hg', ht', hvar, hd, hr, _⟩, _⟩ := h
 exact ⟨q, hr⟩
theorem tabH_of {W : World} (h : laidMetH Tryz.prog laid5 W) : K5.TabH W.heap := by
 have h' : laidMet Tryz.prog laid5 W := h
 obtain ⟨ps, g', t', cs, fuel, p, q, hg', ht', hvar, hd, _, _⟩ := laid_tail h'
 obtain rfl := Option.some.inj (g64.symm.trans hg')
 have hti : (Tryz.prog.globals[3]?).map (·.type) = some 318 := by kernel_rfl
 obtain rfl := Option.some.inj (hti.symm.trans ht')
 have hcs := Lib.cells_of_tab (k := .u8) (zs := tab64) (n := 64) (e := 5) (by kernel_rfl) (by kernel_rfl) (by kernel_rfl) (by kernel_rfl) hd
 intro i hi
 have hc := World.var?_cell g64 hvar i
 have h1 := tab64_in i hi
 refine ⟨tab64.getD i 0, h1.1, h1.2, ?_⟩
 rw [← world_cell, hc]
 have e1 : cs[i]? = cs.toList[i]? := by simp
 rw [e1, hcs]
 have hi' : i < tab64.length := hi
 simp [List.getD, hi']
end Go.Proofs.YtjnijlnmbjjgpaaGreatDoor
