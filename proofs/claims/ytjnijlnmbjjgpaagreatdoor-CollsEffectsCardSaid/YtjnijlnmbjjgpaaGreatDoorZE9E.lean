/-
  Layer 9: the thing under the key; an effect that makes something, that takes away. (Not built yet: written from the printed code.)
  Layer 8: TYPE, PERSIST, PTTL, PEXPIRE, DBSIZE.
  Layer 8: EXISTS, DEL, DBSIZE.
  Layer 8: MGET, KEYS, DEL, MSET.
  Layer 9: replies that are lists; places. (Written by gencd.py.)
  Layer 8: what Do does behind a command: a stop is an error's reply.
  Layer 8: a text in capital letters, by the document and by the program.
  Layer 8: the map of commands: which function stands under which word; by a walk.
  Layer 8: Do, for a word that is a command's.
  Layer 9: the commands of lists.
  The simplified code of this seat's functions, and that it is what the program's code comes to. Printed by a program (wip/print.lean).
  Layer 9: a text in capital letters, by the program.
  Layer 9: the map of commands; Do, for a word that is a command's. (Written by gencg.py.)
  Layer 8: Do, whatever is asked.
  Layer 8: what effects make of a keyspace, one behind the other; plain.
  Layer 8: what is known of a keyspace that keys.Of made of few things.
  Layer 8: DEL, MSET.
  Layer 8: SET, FLUSHALL.
  Layer 8: whatever is asked: its effects are all done.
  Layer 9: effects on things with items: all of a command's effects are done; plain.
  Layer 9: all of a command's effects are done, whatever is asked; plain.
  The simplified code of this seat's functions, and that it is what the program's code comes to. Printed by a program (wip/print.lean).
  The simplified code of this seat's functions, and that it is what the program's code comes to. Printed by a program (wip/print.lean).
  The simplified code of this seat's functions, and that it is what the program's code comes to. Printed by a program (wip/print.lean).
  Layer 9: looking for a field, a member; adding; which names are new.
  Layer 9: the commands of hashes. (Written by gencI.py.)
  Layer 9: the commands of lists: LLEN, LPOP, RPOP, LINDEX, LRANGE, LSET, LPUSH, RPUSH.
  Layer 9: the commands of sets, but SINTER.
  The contracts of the functions of taborref05: what they give is what plain functions on lists give.
  The contracts of taborref05.Set and Of.
  The contract of taborref05.Of.
  The order of members, in plain Lean.
  A ranked set in the heap: its members, one behind the other, and at each height the links. Plain.
-/
import Derived.Test.YtjnijlnmbjjgpaaGreatDoorProg
import Derived.Test.YtjnijlnmbjjgpaaGreatDoorZE9D
namespace Go.Proofs.YtjnijlnmbjjgpaaGreatDoor
open Go Go.Sx C
section
variable {h0 h h1 h' : Heap} {ab kb sb mb c : Nat} {now lo hi kd items : Int} {av lv pv lw rv : Value} {key key2 s : ByteArray} {t : Thing} {is is2 : Bool} {A : List ByteArray} {L F : List Eff} {m : List KI} {S : Space} {M : List En} {T : List Nat} {e e' : En}
theorem _root_.Go.Sx.St.cis {K : Heap → Prop} (w : St T h1 h M) (i : Nat) (hi : M[i]? = some (cE ab kb now av key t is pv lw rv lv L)) (k : ∀ h', St T h1 h' (M.set i (cE ab kb now av key t is2 pv lw rv lv L)) → K h') :
  ∃ l, Blk h ab l ∧ 7 + 1 ≤ l.length ∧ [Value.bool is2].length = 1 ∧ (∀ u ∈ [Value.bool is2], u.oneCell' = true) ∧ ∀ h', Put h h' ab (splice l 7 [.bool is2]) → K h' := by
 obtain ⟨hB, hO, hT, hb, n1, n2, n3⟩ := w.get i hi
 refine ⟨_, hB, by simp [cellsC], rfl, ones1 rfl, fun h' p => k h' ?_⟩
 refine w.set i hi p.chg (fun b hb => .inl (by simp at hb; simp [cE, En.fp, hb])) ⟨p.blk, hO.chg p.chg (fun b hb => by simp; rintro rfl; exact n1 hb), th_off hT p.chg (fun b hb => by simp; rintro rfl; exact n2 hb), fun b h9 => Nat.lt_of_lt_of_le (hb b h9) p.chg.size, n1, n2, n3⟩ (fun b hb => .inl hb)
theorem _root_.Go.Sx.St.clist {a : Option Addr} {n c : Nat} {K : Heap → Prop} (w : St T h1 h M) (i j : Nat) (hi : M[i]? = some (cE ab kb now av key t is pv lw rv lv L)) (hj : M[j]? = some (.o encD 5 (.slice a n c) F)) (hij : j ≠ i)
  (k : ∀ h', St T h1 h' ((M.set j En.nil).set i (cE ab kb now av key t is pv lw rv (.slice a n c) F)) → K h') :
  ∃ l, Blk h ab l ∧ 12 + 1 ≤ l.length ∧ [Value.slice a n c].length = 1 ∧ (∀ u ∈ [Value.slice a n c], u.oneCell' = true) ∧ ∀ h', Put h h' ab (splice l 12 [.slice a n c]) → K h' := by
 obtain ⟨hB, hO, hT, hlt3, n1, n2, n3⟩ := w.get i hi
 have hF : OL encD 5 h (.slice a n c) F := w.get j hj
 refine ⟨_, hB, by simp [cellsC], rfl, ones1 rfl, fun h' p => k h' ?_⟩
 have m1 : ∀ b ∈ vblk (.slice a n c), b ∉ (cE ab kb now av key t is pv lw rv lv L).fp := fun b hb => w.apart j i _ _ hj hi hij b hb
 have n1' : ab ∉ vblk (.slice a n c) := fun hm => m1 ab hm (by simp [cE, En.fp])
 have n3' : ∀ b ∈ vblk (.slice a n c), b ∉ bl3 pv lw rv := fun b hb hm => m1 b hb (by simp [cE, En.fp, hm])
 have hz := w.size
 have hil : i < M.length := (List.getElem?_eq_some_iff.1 hi).1
 have hjl : j < M.length := (List.getElem?_eq_some_iff.1 hj).1
 have hfi := (w.ents i _ hi).2
 have hfj := (w.ents j _ hj).2
 have he : (cE ab kb now av key t is pv lw rv (.slice a n c) F).at h' := ⟨p.blk, hF.chg p.chg (fun b hb => by simp; rintro rfl; exact n1' hb), th_off hT p.chg (fun b hb => by simp; rintro rfl; exact n2 hb), fun b h9 => Nat.lt_of_lt_of_le (hlt3 b h9) p.chg.size, n1', n2, n3'⟩
 have hsub : ∀ b ∈ (cE ab kb now av key t is pv lw rv (.slice a n c) F).fp, b ∈ (cE ab kb now av key t is pv lw rv lv L).fp ∨ b ∈ (En.o encD 5 (.slice a n c) F).fp := fun b hb => by
  rcases List.mem_cons.1 hb with rfl | hb
  ·exact .inl (List.mem_cons_self ..)
  ·rcases List.mem_append.1 hb with hb | hb
   ·exact .inr hb
   ·exact .inl (List.mem_cons_of_mem _ (List.mem_append_right _ hb))
 have hab : ab ∈ (cE ab kb now av key t is pv lw rv lv L).fp := List.mem_cons_self ..
 have get3 : ∀ {x : Nat} {e : En}, ((M.set j En.nil).set i (cE ab kb now av key t is pv lw rv (.slice a n c) F))[x]? = some e → (x = i ∧ e = cE ab kb now av key t is pv lw rv (.slice a n c) F) ∨ (x = j ∧ x ≠ i ∧ e = En.nil) ∨ (x ≠ i ∧ x ≠ j ∧ M[x]? = some e) := fun {x e} hx => by
  by_cases h1 : i = x
  ·subst h1
   rw [List.getElem?_set_self (by rw [List.length_set]; exact hil)] at hx
   cases hx
   exact .inl ⟨rfl, rfl⟩
  ·rw [List.getElem?_set_ne h1] at hx
   by_cases h2 : j = x
   ·subst h2
    rw [List.getElem?_set_self hjl] at hx
    cases hx
    exact .inr (.inl ⟨rfl, fun e => h1 e.symm, rfl⟩)
   ·rw [List.getElem?_set_ne h2] at hx
    exact .inr (.inr ⟨fun e => h1 e.symm, fun e => h2 e.symm, hx⟩)
 refine ⟨w.chg.trans p.chg (fun _ hk => hk) (fun b hb hlt => ?_), fun x e hx => ?_, fun x y e f hx hy hn b h1 h2 => ?_⟩
 ·simp at hb
  subst hb
  rcases hfi b hab with h9 | h9
  ·exact h9
  ·omega
 ·rcases get3 hx with ⟨rfl, rfl⟩ | ⟨rfl, _, rfl⟩ | ⟨h1, h2, hm⟩
  ·refine ⟨he, fun b hb => ?_⟩
   rcases hsub b hb with h9 | h9
   ·exact hfi b h9
   ·exact hfj b h9
  ·exact ⟨trivial, fun b hb => (nomatch (show b ∈ ([] : List Nat) from hb))⟩
  ·refine ⟨En.chg (w.get x hm) p.chg (fun b hb => ?_), (w.ents x e hm).2⟩
   simp
   rintro rfl
   exact w.apart i x _ e hi hm (fun e => h1 e.symm) b hab hb
 ·rcases get3 hx with ⟨rfl, rfl⟩ | ⟨rfl, _, rfl⟩ | ⟨x1, x2, hm⟩
  ·rcases get3 hy with ⟨rfl, rfl⟩ | ⟨rfl, _, rfl⟩ | ⟨y1, y2, hm2⟩
   ·exact hn rfl
   ·exact (nomatch (show b ∈ ([] : List Nat) from h2))
   ·rcases hsub b h1 with h9 | h9
    ·exact w.apart x y _ f hi hm2 hn b h9 h2
    ·exact w.apart j y _ f hj hm2 (fun e => y2 e.symm) b h9 h2
  ·exact (nomatch (show b ∈ ([] : List Nat) from h1))
  ·rcases get3 hy with ⟨rfl, rfl⟩ | ⟨rfl, _, rfl⟩ | ⟨y1, y2, hm2⟩
   ·rcases hsub b h2 with h9 | h9
    ·exact w.apart x y e _ hm hi hn b h1 h9
    ·exact w.apart x j e _ hm hj x2 b h1 h9
   ·exact (nomatch (show b ∈ ([] : List Nat) from h2))
   ·exact w.apart x y e f hm hm2 hn b h1 h2
theorem of9_calls (p : P9 h0 kb sb mb c m S av A) (x : As h0 h (cE ab kb now av key t is pv lw rv lv L)) : CallsH Tryz.prog 151 [ptr ab, .int .i64 kd] h
  (Sub9 h0 h (cE ab kb now av key t is pv lw rv lv L) (fun _ e' => okK kd (getS S key now) = true ∧ ∃ p2 w2 r2, e' = cE ab kb now av key ((getS S key now).getD zeroT) (getS S key now).isSome p2 w2 r2 lv L)
   (fun why => okK kd (getS S key now) = false ∧ why = wType)) := by
 refine f151_calls (by simp) ?_
 have w := x.st
 refine w.ldc 0 rfl rfl ?_
 refine w.ldc 0 rfl rfl ?_
 refine w.ldc 0 rfl rfl ?_
 refine call_ret (KGetF_calls key now (p.kr.ext (x.base w)) p.so) ?_
 rintro _ h2 ⟨⟨p2, w2, r2, rfl, tu, fr⟩, c2⟩
 generalize getS S key now = go at tu fr ⊢
 have w := w.add (e := thE (go.getD zeroT) p2 w2 r2) c2 ⟨tu, fun b hb => (fr b hb).2⟩ (fun b hb => (fr b hb).1)
 refine w.cthing 1 (j := 0) rfl rfl (by decide) fun h3 w => ?_
 refine w.cis 1 rfl fun h4 w => ?_
 have fin : ∀ {h' : Heap} {M' : List En} {j : Nat}, St (cE ab kb now av key t is pv lw rv lv L).fp h h' M' → M'[j]? = some (cE ab kb now av key (go.getD zeroT) go.isSome p2 w2 r2 lv L) →
   Tn h0 h (cE ab kb now av key t is pv lw rv lv L) h' (cE ab kb now av key (go.getD zeroT) go.isSome p2 w2 r2 lv L) := fun w hj => x.out w _ hj
 refine w.ldc 1 rfl rfl ?_
 cases go with
 |none =>
  refine must9_yes fun _ => ?_
  exact ⟨_, ⟨rfl, p2, w2, r2, rfl⟩, fin (j := 1) w rfl⟩
 |some u =>
  refine w.ldc 1 rfl rfl ?_
  refine Ai rfl (Ai (fun h1 => ?_) (fun h1 => ?_))
  ·refine must9_yes fun _ => ?_
   exact ⟨_, ⟨decide_eq_true h1, p2, w2, r2, rfl⟩, fin (j := 1) w rfl⟩
  ·exact must9_no ⟨_, rfl, ⟨decide_eq_false h1, rfl⟩, w.chg⟩
theorem begin9_calls (p : P9 h0 kb sb mb c m S av A) (hlo : 1 ≤ lo) (x : As h0 h (cE ab kb now av key t is pv lw rv lv L)) : CallsH Tryz.prog 157 [ptr ab, .int .i64 kd, .int .i64 lo, .int .i64 hi] h
  (Sub9 h0 h (cE ab kb now av key t is pv lw rv lv L) (fun _ e' => (lo ≤ A.length ∧ (A.length : Int) ≤ hi) ∧ ∃ k0, A[0]? = some k0 ∧ okK kd (getS S k0 now) = true ∧ ∃ p2 w2 r2, e' = cE ab kb now av k0 ((getS S k0 now).getD zeroT) (getS S k0 now).isSome p2 w2 r2 lv L)
   (fun why => (¬ (lo ≤ A.length ∧ (A.length : Int) ≤ hi) ∧ why = wArgs) ∨ (lo ≤ A.length ∧ (A.length : Int) ≤ hi) ∧ ∃ k0, A[0]? = some k0 ∧ okK kd (getS S k0 now) = false ∧ why = wType)) := by
 refine f157_calls (by simp) ?_
 have w := x.st
 refine sub9_go (i := 0) x w rfl (fun x => many9_calls p hlo x) ?_ ?_
 ·rintro _ h1 _ ⟨hb, k0, hk0, rfl⟩ w
  refine sub9_go (i := 0) x w rfl (fun x => of9_calls p x) ?_ ?_
  ·rintro _ h2 _ ⟨hk, p2, w2, r2, rfl⟩ w
   exact ⟨_, ⟨hb, k0, hk0, hk, p2, w2, r2, rfl⟩, x.out w 0 rfl⟩
  ·rintro why h2 ⟨hk, rfl⟩ c2
   exact ⟨_, rfl, .inr ⟨hb, k0, hk0, hk, rfl⟩, c2⟩
 ·rintro why h1 ⟨hb, rfl⟩ c1
  exact ⟨_, rfl, .inl ⟨hb, rfl⟩, c1⟩
def fitsE (key : ByteArray) (items : Int) (d : Eff) : Prop := items ≤ 65536 ∧ key.size ≤ 1048576 ∧ d.name.size ≤ 1048576 ∧ d.text.size ≤ 1048576
def putL (S : Space) (key : ByteArray) (now : Int) (L : List Eff) (d : Eff) : List Eff := (if L = [] then dropsS S key now else L) ++ [{ d with key := key }]
theorem take9_calls (d : Eff) (x : As h0 h (cE ab kb now av key t is pv lw rv lv L)) (hL : L.length ≤ 1000000) : CallsH Tryz.prog 233 [ptr ab, .agg ⟨encD d⟩] h
  (Sub9 h0 h (cE ab kb now av key t is pv lw rv lv L) (fun _ e' => ∃ lv', e' = cE ab kb now av key t is pv lw rv lv' (L ++ [{ d with key := key }])) (fun _ => False)) := by
 obtain ⟨la, lc, rfl⟩ := x.st.cform 0 rfl
 obtain ⟨op, k0, nm, tx, nn⟩ := d
 refine f233_calls (by simp) ?_
 intro b4 h1 g1
 have w : St (cE ab kb now av key t is pv lw rv (.slice la L.length lc) L).fp h h1 [.b b4 [.int .i64 op, .string k0, .string nm, .string tx, .int .i64 nn], cE ab kb now av key t is pv lw rv (.slice la L.length lc) L] := x.st.new g1
 refine w.ldc 1 rfl rfl ?_
 refine w.st1 0 rfl rfl rfl rfl fun h2 w => ?_
 refine w.ldc 1 rfl rfl ?_
 refine w.ldw 0 rfl rfl ?_
 intro b5 h3 g3
 have w := w.new g3
 refine w.capp 2 rfl rfl (one_sl (e := ⟨op, key, nm, tx, nn⟩) (w.get 0 rfl)) (by simp; omega) fun a3 c3 h4 hst => ?_
 refine hst fun h5 w => ?_
 exact ⟨_, ⟨_, rfl⟩, x.out w 2 rfl⟩
theorem put9_calls (p : P9 h0 kb sb mb c m S av A) (d : Eff) (x : As h0 h (cE ab kb now av key t is pv lw rv lv L)) (hL : L.length ≤ 1000000) (hk : key.size < 4611686018427387904) (hn : d.name.size < 4611686018427387904) (ht : d.text.size < 4611686018427387904) :
  CallsH Tryz.prog 155 [ptr ab, .agg ⟨encD d⟩, .int .i64 items] h
  (Sub9 h0 h (cE ab kb now av key t is pv lw rv lv L) (fun _ e' => fitsE key items d ∧ ∃ lv', e' = cE ab kb now av key t is pv lw rv lv' (putL S key now L d)) (fun why => ¬ fitsE key items d ∧ why = wLong)) := by
 obtain ⟨la, lc, rfl⟩ := x.st.cform 0 rfl
 obtain ⟨op, k0, nm, tx, nn⟩ := d
 have hn : nm.size < 4611686018427387904 := hn
 have ht : tx.size < 4611686018427387904 := ht
 refine f155_calls (by simp) ?_
 intro b4 h1 g1
 have w : St (cE ab kb now av key t is pv lw rv (.slice la L.length lc) L).fp h h1 [.b b4 [.int .i64 op, .string k0, .string nm, .string tx, .int .i64 nn], cE ab kb now av key t is pv lw rv (.slice la L.length lc) L] := x.st.new g1
 have bad : ∀ {h' : Heap}, ¬ fitsE key items ⟨op, k0, nm, tx, nn⟩ → Chg (cE ab kb now av key t is pv lw rv (.slice la L.length lc) L).fp h h' → ∃ why, stop9 wLong = stop9 why ∧ (¬ fitsE key items ⟨op, k0, nm, tx, nn⟩ ∧ why = wLong) ∧ Chg (cE ab kb now av key t is pv lw rv (.slice la L.length lc) L).fp h h' :=
  fun hh hc => ⟨_, rfl, ⟨hh, rfl⟩, hc⟩
 refine Ai rfl (Ai (fun q1 => ?_) (fun q1 => ?_))
 rotate_left
 ·exact must9_no (bad (fun hh => q1 hh.1) w.chg)
 refine w.ldc 1 rfl rfl ?_
 refine Ai rfl (Ai (fun q2 => ?_) (fun q2 => ?_))
 rotate_left
 ·exact must9_no (bad (fun hh => by have := hh.2.1; omega) w.chg)
 refine w.ld1 0 rfl rfl ?_
 refine Ai rfl (Ai (fun q3 => ?_) (fun q3 => ?_))
 rotate_left
 ·exact must9_no (bad (fun hh => by have : nm.size ≤ 1048576 := hh.2.2.1; omega) w.chg)
 refine w.ld1 0 rfl rfl ?_
 refine Ai rfl (Ai (fun q4 => ?_) (fun q4 => ?_))
 rotate_left
 ·exact must9_no (bad (fun hh => by have : tx.size ≤ 1048576 := hh.2.2.2; omega) w.chg)
 have fit : fitsE key items ⟨op, k0, nm, tx, nn⟩ := ⟨q1, by omega, by show nm.size ≤ _; omega, by show tx.size ≤ _; omega⟩
 refine must9_yes fun _ => ?_
 have rest : ∀ {h' : Heap} {la2 : Option Addr} {lc2 : Nat} {L2 : List Eff} {M' : List En}, L2 ++ [⟨op, key, nm, tx, nn⟩] = putL S key now L ⟨op, k0, nm, tx, nn⟩ → L2.length ≤ 1000001 →
   St (cE ab kb now av key t is pv lw rv (.slice la L.length lc) L).fp h h' (.b b4 [.int .i64 op, .string k0, .string nm, .string tx, .int .i64 nn] :: cE ab kb now av key t is pv lw rv (.slice la2 L2.length lc2) L2 :: M') →
   swp Tryz.prog (.seq (.ops f155r4) (.ops f155r5)) (retQ [] (Sub9 h0 h (cE ab kb now av key t is pv lw rv (.slice la L.length lc) L) (fun _ e' => fitsE key items ⟨op, k0, nm, tx, nn⟩ ∧ ∃ lv', e' = cE ab kb now av key t is pv lw rv lv' (putL S key now L ⟨op, k0, nm, tx, nn⟩)) (fun why => ¬ fitsE key items ⟨op, k0, nm, tx, nn⟩ ∧ why = wLong)))
    (mk [(0, ptr ab), (4, ptr b4)]) [] h' := by
  intro h' la2 lc2 L2 M' he hl2 w
  refine w.ldc 1 rfl rfl ?_
  refine w.st1 0 rfl rfl rfl rfl fun h2 w => ?_
  refine w.ldc 1 rfl rfl ?_
  refine w.ldw 0 rfl rfl ?_
  intro b5 h3 g3
  have w := w.new g3
  refine w.capp 2 rfl rfl (one_sl (e := ⟨op, key, nm, tx, nn⟩) (w.get 0 rfl)) (by simp; omega) fun a3 c3 h4 hst => ?_
  refine hst fun h5 w => ?_
  exact ⟨_, ⟨fit, _, by rw [← he]⟩, x.out w 2 rfl⟩
 refine w.ldc 1 rfl rfl ?_
 refine Ai rfl (Ai (fun q5 => ?_) (fun q5 => ?_))
 ·have q5 : L = [] := List.eq_nil_of_length_eq_zero (by omega)
  refine w.ldc 1 rfl rfl ?_
  refine w.ldc 1 rfl rfl ?_
  refine w.ldc 1 rfl rfl ?_
  refine call_ret (BDrops_calls key now (p.kr.ext (x.base w)) p.so) ?_
  rintro _ h2 ⟨od, hbd, c2⟩
  obtain ⟨da, dc, rfl, _⟩ := od.sl.form
  have w := w.add (e := .o encD 5 (.slice da (dropsS S key now).length dc) (dropsS S key now)) c2 od hbd
  refine w.clist 2 0 rfl rfl (by decide) fun h3 w => ?_
  have w := w.pick [1, 2] (by decide)
  exact cut_at [(0, ptr ab), (4, ptr b4)] ⟨rfl, rfl, trivial⟩ (rest (M' := []) (by unfold putL; rw [if_pos q5]) (by have := drops_len S key now; omega) w)
 ·have q5 : L ≠ [] := fun e => q5 (by rw [e]; rfl)
  exact cut_at [(0, ptr ab), (4, ptr b4)] ⟨rfl, rfl, trivial⟩ (rest (M' := []) (by unfold putL; rw [if_neg q5]) (by omega) w)
end
end Go.Proofs.YtjnijlnmbjjgpaaGreatDoor
namespace Go.Proofs.YtjnijlnmbjjgpaaGreatDoor
open Go Go.Sx C
section
variable {h0 h : Heap} {ab kb sb mb c : Nat} {now n : Int} {av lv : Value} {A : List ByteArray} {m : List KI} {S : Space} {key s a : ByteArray} {t : Thing} {go : Option Thing} {q : Rep} {E : List Eff}
def KindS (S : Space) : Prop := ∀ p ∈ S, 1 ≤ p.2.kind ∧ p.2.kind ≤ 5
def UntS (S : Space) : Prop := ∀ p ∈ S, In64 p.2.unt
end
end Go.Proofs.YtjnijlnmbjjgpaaGreatDoor
namespace Go.Proofs.YtjnijlnmbjjgpaaGreatDoor
open Go Go.Sx C
section
variable {h0 h : Heap} {ab kb sb mb c : Nat} {now n : Int} {av lv : Value} {A : List ByteArray} {m : List KI} {S : Space}
end
structure CM (es : List MapEntry) (pre : List ByteArray) : Prop where
 fits : ∀ e ∈ es, fits .str e.key = true
 cnt : ∀ k, (mfind (.string k) es 0 = none ∧ k ∉ pre) ∨ (∃ i, mfind (.string k) es 0 = some (i, .int .i64 (cntB k pre)) ∧ k ∈ pre)
theorem CM.nil : CM [] [] := ⟨by simp, fun k => .inl ⟨rfl, by simp⟩⟩
theorem key_same {e : MapEntry} {k : ByteArray} (hf : fits .str e.key = true) : Instr.sameBits 10000 (.string k) e.key = true ↔ e.key = .string k := by
 constructor
 ·intro hs; exact (sameBits_eq (k := .str) (by rfl) hf hs).symm
 ·intro e; rw [e]; exact sameBits_refl (k := .str) rfl
theorem mfind_app {k k' : ByteArray} {v : Value} {c : Nat} : ∀ {es : List MapEntry} {i : Nat}, (∀ e ∈ es, fits .str e.key = true) → mfind (.string k) es i = none →
  mfind (.string k') (es ++ [{ key := .string k, val := v, born := c }]) i = (if k' = k then some (i + es.length, v) else mfind (.string k') es i)
 |[], i, _, _ => by
  simp only [List.nil_append, mfind]
  by_cases h : k' = k
  ·rw [if_pos h, if_pos (by rw [h]; exact sameBits_refl (k := .str) rfl)]; rfl
  ·rw [if_neg h, if_neg]
   intro hs
   have := sameBits_eq (k := .str) (by rfl) (by rfl) hs
   simp at this
   exact h this
 |e :: es, i, hf, hn => by
  have hfe := hf e (by simp)
  simp only [mfind] at hn
  split at hn
  ·cases hn
  ·rename_i hne
   have ih := mfind_app (k := k) (k' := k') (v := v) (c := c) (es := es) (i := i + 1) (fun e he => hf e (by simp [he])) hn
   simp only [List.cons_append, mfind]
   rw [ih]
   by_cases h : k' = k
   ·rw [if_pos h, if_pos h, h, if_neg hne]
    simp only [List.length_cons]
    congr 2; omega
   ·rw [if_neg h, if_neg h]
theorem mfind_mod {k k' : ByteArray} {v u : Value} : ∀ {es : List MapEntry} {i j : Nat}, (∀ e ∈ es, fits .str e.key = true) → mfind (.string k) es i = some (i + j, u) →
  (k' = k → mfind (.string k') (es.modify j fun e => { e with val := v }) i = some (i + j, v)) ∧ (k' ≠ k → mfind (.string k') (es.modify j fun e => { e with val := v }) i = mfind (.string k') es i)
 |[], i, j, _, h => by simp [mfind] at h
 |e :: es, i, j, hf, h => by
  have hfe := hf e (by simp)
  simp only [mfind] at h
  split at h
  ·rename_i hs
   simp at h
   have hj : j = 0 := by omega
   subst hj
   have hk := (key_same hfe).1 hs
   simp only [List.modify_zero_cons, mfind]
   refine ⟨fun e1 => ?_, fun hne => ?_⟩
   ·rw [e1, if_pos hs]; rfl
   ·have : ¬ (Instr.sameBits 10000 (.string k') e.key = true) := fun h2 => by
     have := (key_same hfe).1 h2
     rw [hk] at this
     simp at this
     exact hne this.symm
    rw [if_neg this, if_neg this]
  ·rename_i hs
   cases j with
   |zero =>
    exfalso
    have : ∀ {es : List MapEntry} {i p : Nat} {u : Value}, mfind (.string k) es i = some (p, u) → i ≤ p := by
     intro es
     induction es with
     |nil => intro i p u h; simp [mfind] at h
     |cons e es ih =>
      intro i p u h
      simp only [mfind] at h
      split at h
      ·simp at h; omega
      ·have := ih h; omega
    have := this h
    omega
   |succ j =>
    have h : mfind (.string k) es (i + 1) = some (i + 1 + j, u) := by rw [h]; congr 2; omega
    obtain ⟨m1, m2⟩ := mfind_mod (k := k) (k' := k') (v := v) (fun e he => hf e (by simp [he])) h
    simp only [List.modify_succ_cons, mfind]
    refine ⟨fun e1 => ?_, fun hne => ?_⟩
    ·rw [m1 e1, e1, if_neg hs]; congr 2; omega
    ·rw [m2 hne]
theorem CM.put0 {es : List MapEntry} {pre : List ByteArray} (x : CM es pre) {k : ByteArray} {c : Nat} {n : Int} (h1 : mfind (.string k) es 0 = none) (h2 : k ∉ pre) (hn : n = 1) :
  CM (es ++ [{ key := .string k, val := .int .i64 n, born := c }]) (pre ++ [k]) := by
 have h0 : cntB k pre = 0 := cntB_zero h2
 refine ⟨fun e he => ?_, fun k' => ?_⟩
 ·rcases List.mem_append.1 he with he | he
  ·exact x.fits e he
  ·rw [List.mem_singleton.1 he]; rfl
 ·rw [mfind_app x.fits h1, cntB_snoc]
  by_cases hk : k' = k
  ·rw [if_pos hk, if_pos hk]
   refine .inr ⟨0 + es.length, ?_, by simp [hk]⟩
   rw [hk, h0, hn]; rfl
  ·rw [if_neg hk, if_neg hk]
   rcases x.cnt k' with ⟨h3, h4⟩ | ⟨j, h3, h4⟩
   ·exact .inl ⟨h3, by simp [h4, hk]⟩
   ·exact .inr ⟨j, by simpa using h3, by simp [h4]⟩
theorem CM.put1 {es : List MapEntry} {pre : List ByteArray} (x : CM es pre) {k : ByteArray} {i : Nat} {n : Int} (h1 : mfind (.string k) es 0 = some (i, .int .i64 (cntB k pre))) (hn : n = cntB k pre + 1) :
  CM (es.modify i fun e => { e with val := .int .i64 n }) (pre ++ [k]) := by
 have h1' : mfind (.string k) es 0 = some (0 + i, .int .i64 (cntB k pre)) := by rw [h1]; simp
 refine ⟨fun e he => ?_, fun k' => ?_⟩
 ·obtain ⟨j, hj⟩ := List.getElem?_of_mem he
  rw [List.getElem?_modify] at hj
  obtain ⟨e0, he0, rfl⟩ := Option.map_eq_some_iff.1 hj
  have := x.fits e0 (List.mem_of_getElem? he0)
  split <;> exact this
 ·obtain ⟨m1, m2⟩ := mfind_mod (k' := k') (v := .int .i64 n) x.fits h1'
  rw [cntB_snoc]
  by_cases hk : k' = k
  ·rw [if_pos hk]
   refine .inr ⟨0 + i, ?_, by simp [hk]⟩
   rw [m1 hk, hk, hn]; rfl
  ·rw [if_neg hk]
   rw [m2 hk]
   rcases x.cnt k' with ⟨h3, h4⟩ | ⟨j, h3, h4⟩
   ·exact .inl ⟨h3, by simp [h4, hk]⟩
   ·exact .inr ⟨j, by simpa using h3, by simp [h4]⟩
theorem CM.hit {es : List MapEntry} {pre : List ByteArray} {k : ByteArray} (x : CM es (pre ++ [k])) : ∃ i, mfind (.string k) es 0 = some (i, .int .i64 (cntB k pre + 1 : Nat)) := by
 rcases x.cnt k with ⟨_, h2⟩ | ⟨i, h1, _⟩
 ·exact absurd (by simp) h2
 ·rw [cntB_snoc, if_pos rfl] at h1
  exact ⟨i, h1⟩
end Go.Proofs.YtjnijlnmbjjgpaaGreatDoor
namespace Go.Proofs.YtjnijlnmbjjgpaaGreatDoor
open Go Go.Sx C
section
variable {h0 h h' : Heap} {ab kb sb mb c b2 : Nat} {now n : Int} {av lv v : Value} {A : List ByteArray} {m : List KI} {S : Space} {M : List En} {E : List Eff} {res : Except ByteArray (Rep × List Eff)} {ls : List (Int × Int × ByteArray)}
theorem _root_.Go.Sx.St.empty {T : List Nat} {α : Type} {enc : α → List Value} {size : Nat} (w : St T h0 h M) : St T h0 h (.o enc size (.slice none 0 0) ([] : List α) :: M) :=
 w.add (e := .o enc size (.slice none 0 0) ([] : List α)) (Chg.refl _) OL.nil (fun b hb => (nomatch (show b ∈ ([] : List Nat) from hb)))
end
end Go.Proofs.YtjnijlnmbjjgpaaGreatDoor
namespace Go.Proofs.YtjnijlnmbjjgpaaGreatDoor
open Go Go.Sx C
def toQ (s : ByteArray) : Int × Int × ByteArray := (4, 0, s)
def qs (l : List ByteArray) : List (Int × Int × ByteArray) := l.map toQ
theorem text9_calls {h : Heap} {s : ByteArray} : CallsH Tryz.prog 158 [.string s] h (Ret fun r h' => r = repV 4 0 s ∧ Chg [] h h') := by
 refine f158_calls (by simp) ?_
 intro b h1 g1
 refine Ei _ (Ai g1.blk (Ai (by decide) (Ai rfl (Ai (repV_ones 4 0 s) ?_))))
 intro h2 p2
 have g2 := g1.put p2
 exact ⟨_, rfl, cells_blk g2.blk, rfl, g2.chg⟩
theorem number9_calls {h : Heap} {n : Int} : CallsH Tryz.prog 156 [.int .i64 n] h (Ret fun r h' => r = repV 3 n noText ∧ Chg [] h h') := by
 refine f156_calls (by simp) ?_
 intro b h1 g1
 refine Ei _ (Ai g1.blk (Ai (by decide) (Ai rfl (Ai (repV_ones 3 n noText) ?_))))
 intro h2 p2
 have g2 := g1.put p2
 exact ⟨_, rfl, cells_blk g2.blk, rfl, g2.chg⟩
def ListAt (z : Nat) (h : Heap) (v : Value) (l : List (Int × Int × ByteArray)) : Prop := ∃ a n c, v = .agg ⟨[.int .i64 5, .int .i64 0, .string noText, .slice a n c]⟩ ∧ OL encQ 4 h (.slice a n c) l ∧ ∀ b ∈ ablk a, z ≤ b
def EachR (h : Heap) (ss : List ByteArray) (r : Value) (h' : Heap) : Prop := ∃ b, r = .slice (some ⟨b, 0, none⟩) ss.length ss.length ∧ Blk h' b (ss.map .string) ∧ h.size ≤ b ∧ Chg [] h h'
theorem one9_calls {h : Heap} {s : ByteArray} : CallsH Tryz.prog 171 [.string s] h (Ret (EachR h [s])) := by
 refine f171_calls (by simp) ?_
 intro b h1 g1
 exact ⟨b, rfl, g1.blk, by have := g1.id; omega, g1.chg⟩
theorem two9_calls {h : Heap} {p : Pair} : CallsH Tryz.prog 162 [.agg ⟨encP p⟩] h (Ret (EachR h [p.name, p.text])) := by
 refine f162_calls (by simp) ?_
 intro b1 h1 g1
 refine Ei _ (Ai (cell_blk g1.blk rfl) (Ei _ (Ai (cell_blk g1.blk rfl) ?_)))
 intro b h2 g2
 exact ⟨b, rfl, g2.blk, by have := g2.id; have := g1.size; omega, g1.chg.nil g2.chg⟩
theorem name9_calls {h : Heap} {r : Rank} : CallsH Tryz.prog 183 [.agg ⟨encR r⟩] h (Ret (EachR h [r.name])) := by
 refine f183_calls (by simp) ?_
 intro b1 h1 g1
 refine Ei _ (Ai (cell_blk g1.blk rfl) ?_)
 intro b h2 g2
 exact ⟨b, rfl, g2.blk, by have := g2.id; have := g1.size; omega, g1.chg.nil g2.chg⟩
theorem ix9 {h : Heap} {b n j : Nat} {i : Int} {us : List Value} {v : Value} {K : Value → Prop} (hB : Blk h b us) (e : i = j) (hn : j < n) (hs : us[j]? = some v) (k : K v) : 0 ≤ i ∧ i < (n : Int) ∧ ∃ v, cell h b (0 + i.toNat * 1) = some v ∧ K v := by
 subst e
 refine ⟨by omega, by omega, v, ?_, k⟩
 have := cell_blk hB hs
 simpa using this
theorem flat_len {α : Type} {f : α → List ByteArray} (hf : ∀ x, (f x).length ≤ 2) : ∀ l : List α, (l.flatMap f).length ≤ 2 * l.length
 |[] => by simp
 |x :: l => by
  have h1 := hf x
  have h2 := flat_len hf l
  rw [List.flatMap_cons, List.length_append, List.length_cons]
  omega
theorem flat_take {α : Type} {f : α → List ByteArray} {l : List α} {q : Nat} (hq : q < l.length) : (l.take (q + 1)).flatMap f = (l.take q).flatMap f ++ f l[q] := by
 rw [List.take_succ_eq_append_getElem hq, List.flatMap_append]; simp
theorem qs_snoc {pre ss : List ByteArray} {j : Nat} (hj : j < ss.length) : qs (pre ++ ss.take (j + 1)) = qs (pre ++ ss.take j) ++ [(4, 0, ss[j])] := by
 rw [List.take_succ_eq_append_getElem hj, ← List.append_assoc]
 unfold qs
 rw [List.map_append (l₁ := pre ++ ss.take j)]; rfl
theorem listStr_calls {h : Heap} {v : Value} {l : List ByteArray} (hs : SL encS h v l) (hl : l.length ≤ 100000) :
  CallsH Tryz.prog 170 [v, .func (.func 171) #[] #[]] h (Ret fun r h' => ListAt h.size h' r (qs (l.flatMap (fun s : ByteArray => [s]))) ∧ Chg [] h h') := by
 obtain ⟨a, cc, rfl, _⟩ := hs.form
 have two : ∀ x : ByteArray, ((fun s : ByteArray => [s]) x).length ≤ 2 := fun x => by simp
 refine f170_calls (by simp) ?_
 intro b4 h1 g1
 have w := (St.start h).new g1
 intro b5 h2 g2
 have w := w.new g2
 refine w.st1 0 rfl rfl rfl rfl fun h3 w => ?_
 have w := w.empty (enc := encQ) (size := 4)
 refine loop_intro (fun q : Nat × Value => [(1, .func (.func 171) #[] #[]), (4, ptr b4), (5, ptr b5), (11, .slice a l.length cc), (12, .int .i64 l.length), (13, .int .i64 q.1)])
  (fun q h' => q.1 ≤ l.length ∧ St [] h h' [.o encQ 4 q.2 (qs ((l.take q.1).flatMap (fun s : ByteArray => [s]))), .b b5 [.int .i64 5, .int .i64 0, .string noText, q.2], .b b4 [.int .i64 0, .int .i64 0, .string ⟨#[]⟩, .slice none 0 0]])
  (fun q => l.length - q.1) (0, .slice none 0 0) ⟨rfl, rfl, rfl, rfl, rfl, rfl, trivial⟩ ⟨Nat.zero_le _, w⟩ ?_
 rintro ⟨q, v⟩ h4 ⟨hq, w⟩
 have hq : q ≤ l.length := hq
 obtain ⟨a4, c4, rfl, _⟩ := (show OL encQ 4 h4 v (qs ((l.take q).flatMap (fun s : ByteArray => [s]))) from w.get 0 rfl).sl.form
 refine Ai rfl (Ai (fun hlt => ?_) (fun hge => ?_))
 ·have hlt : q < l.length := by omega
  obtain ⟨b, o, rfl⟩ := hs.addr (by omega)
  have hcs := (hs.ext w.chg).cells encS_len (List.getElem?_eq_getElem hlt)
  obtain ⟨ss, hss⟩ : ∃ ss, ss = (fun s : ByteArray => [s]) l[q] := ⟨_, rfl⟩
  obtain ⟨pre, hpe⟩ : ∃ pre, pre = (l.take q).flatMap (fun s : ByteArray => [s]) := ⟨_, rfl⟩
  have hsl : ss.length ≤ 2 := by rw [hss]; exact two _
  have hpre : pre.length ≤ 200000 := by rw [hpe]; have := flat_len two (l.take q); rw [List.length_take] at this; omega
  have e9 : qs ((l.take (q + 1)).flatMap (fun s : ByteArray => [s])) = qs (pre ++ ss.take ss.length) := by rw [flat_take hlt, List.take_length, hpe, hss]
  have ln : (qs ((l.take q).flatMap (fun s : ByteArray => [s]))).length = pre.length := by rw [hpe]; exact List.length_map _
  have e0 : qs ((l.take q).flatMap (fun s : ByteArray => [s])) = qs (pre ++ ss.take 0) := by rw [hpe]; simp
  rw [ln, e0] at w
  refine Ai (by omega) (Ai (by omega) (Ei _ (Ai (hcs 0 _ rfl) ?_)))
  refine call_ret (show CallsH _ _ _ _ (Ret (EachR _ ss)) by rw [hss]; exact one9_calls) ?_
  rintro _ h5 ⟨bx, rfl, Bx, hbx, c5⟩
  have w := w.add (e := .b bx (ss.map .string)) c5 Bx (fun k hk => by simp [En.fp] at hk; omega)
  have w := w
  refine loop_intro (fun p : Nat × Value => [(1, .func (.func 171) #[] #[]), (4, ptr b4), (5, ptr b5), (11, .slice (some ⟨b, o, none⟩) l.length cc), (12, .int .i64 l.length), (13, .int .i64 q), (19, .slice (some ⟨bx, 0, none⟩) ss.length ss.length), (20, .int .i64 ss.length), (21, .int .i64 p.1)])
   (fun p h' => p.1 ≤ ss.length ∧ St [] h h' [.b bx (ss.map .string), .o encQ 4 p.2 (qs (pre ++ ss.take p.1)), .b b5 [.int .i64 5, .int .i64 0, .string noText, p.2], .b b4 [.int .i64 0, .int .i64 0, .string ⟨#[]⟩, .slice none 0 0]])
   (fun p => ss.length - p.1) (0, .slice a4 pre.length c4) ⟨rfl, rfl, rfl, rfl, rfl, rfl, rfl, rfl, rfl, trivial⟩ ⟨Nat.zero_le _, w⟩ ?_
  rintro ⟨j, v⟩ h6 ⟨hj, w⟩
  have hj : j ≤ ss.length := hj
  obtain ⟨a6, c6, rfl, _⟩ := (show OL encQ 4 h6 v (qs (pre ++ ss.take j)) from w.get 1 rfl).sl.form
  refine Ai rfl (Ai (fun hlt2 => ?_) (fun hge2 => ?_))
  ·have hlt2 : j < ss.length := by omega
   have hqn : (qs (pre ++ ss.take j)).length ≤ 200002 := by unfold qs; simp; omega
   refine ix9 (w.get 0 rfl) rfl hlt2 (v := .string ss[j]) (by simp [hlt2]) ?_
   refine w.ld1 2 rfl rfl ?_
   refine w.callqv text9_calls fun h7 w => ?_
   intro b9 h8 g8
   have w := w.new g8
   refine w.app 2 rfl encQ_len encQ_one rfl (SL.one encQ_len (x := (4, 0, ss[j])) (w.get 0 rfl)) (by simp only [List.length_singleton]; omega) fun v' h9 w => ?_
   rw [← qs_snoc hlt2] at w
   obtain ⟨a9, c9, rfl, _⟩ := (show OL encQ 4 h9 v' (qs (pre ++ ss.take (j + 1))) from w.get 2 rfl).sl.form
   refine w.st1 3 rfl rfl rfl rfl fun h10 w => ?_
   have w := w.pick [1, 2, 3, 4] (by decide)
   refine Ai rfl (fun z hz => ?_)
   have hz := add_in hz (by omega) (by omega)
   subst hz
   exact Ai rfl (Ei (j + 1, _) (Ai ⟨rfl, rfl, rfl, rfl, rfl, rfl, rfl, rfl, rfl, trivial⟩ (Ai ⟨hlt2, w⟩ (by simp only; omega))))
  ·have hjn : j = ss.length := by omega
   subst hjn
   rw [← e9] at w
   have w := w.pick [1, 2, 3] (by decide)
   refine Ai rfl (fun z hz => ?_)
   have hz := add_in hz (by omega) (by omega)
   subst hz
   exact Ai rfl (Ei (q + 1, _) (Ai ⟨rfl, rfl, rfl, rfl, rfl, rfl, trivial⟩ (Ai ⟨hlt, w⟩ (by simp only; omega))))
 ·have hkl : q = l.length := by omega
  subst hkl
  rw [List.take_length] at w
  refine w.ldw 1 rfl rfl ?_
  refine w.st1 2 rfl rfl rfl rfl fun h7 w => ?_
  refine ⟨_, rfl, cells_blk (w.get 2 rfl), ⟨_, _, _, rfl, (show OL encQ 4 h7 _ (qs (l.flatMap (fun s : ByteArray => [s]))) from w.get 0 rfl), fun b hb => ?_⟩, w.chg⟩
  rcases (w.ents 0 _ rfl).2 b hb with h9 | h9
  ·exact (nomatch h9)
  ·exact h9
theorem listPair_calls {h : Heap} {v : Value} {l : List Pair} (hs : SL encP h v l) (hl : l.length ≤ 100000) :
  CallsH Tryz.prog 161 [v, .func (.func 162) #[] #[]] h (Ret fun r h' => ListAt h.size h' r (qs (l.flatMap (fun p : Pair => [p.name, p.text]))) ∧ Chg [] h h') := by
 obtain ⟨a, cc, rfl, _⟩ := hs.form
 have two : ∀ x : Pair, ((fun p : Pair => [p.name, p.text]) x).length ≤ 2 := fun x => by simp
 refine f161_calls (by simp) ?_
 intro b4 h1 g1
 have w := (St.start h).new g1
 intro b5 h2 g2
 have w := w.new g2
 refine w.st1 0 rfl rfl rfl rfl fun h3 w => ?_
 have w := w.empty (enc := encQ) (size := 4)
 refine loop_intro (fun q : Nat × Value => [(1, .func (.func 162) #[] #[]), (4, ptr b4), (5, ptr b5), (11, .slice a l.length cc), (12, .int .i64 l.length), (13, .int .i64 q.1)])
  (fun q h' => q.1 ≤ l.length ∧ St [] h h' [.o encQ 4 q.2 (qs ((l.take q.1).flatMap (fun p : Pair => [p.name, p.text]))), .b b5 [.int .i64 5, .int .i64 0, .string noText, q.2], .b b4 [.int .i64 0, .int .i64 0, .string ⟨#[]⟩, .slice none 0 0]])
  (fun q => l.length - q.1) (0, .slice none 0 0) ⟨rfl, rfl, rfl, rfl, rfl, rfl, trivial⟩ ⟨Nat.zero_le _, w⟩ ?_
 rintro ⟨q, v⟩ h4 ⟨hq, w⟩
 have hq : q ≤ l.length := hq
 obtain ⟨a4, c4, rfl, _⟩ := (show OL encQ 4 h4 v (qs ((l.take q).flatMap (fun p : Pair => [p.name, p.text]))) from w.get 0 rfl).sl.form
 refine Ai rfl (Ai (fun hlt => ?_) (fun hge => ?_))
 ·have hlt : q < l.length := by omega
  obtain ⟨b, o, rfl⟩ := hs.addr (by omega)
  have hcs := (hs.ext w.chg).cells encP_len (List.getElem?_eq_getElem hlt)
  obtain ⟨ss, hss⟩ : ∃ ss, ss = (fun p : Pair => [p.name, p.text]) l[q] := ⟨_, rfl⟩
  obtain ⟨pre, hpe⟩ : ∃ pre, pre = (l.take q).flatMap (fun p : Pair => [p.name, p.text]) := ⟨_, rfl⟩
  have hsl : ss.length ≤ 2 := by rw [hss]; exact two _
  have hpre : pre.length ≤ 200000 := by rw [hpe]; have := flat_len two (l.take q); rw [List.length_take] at this; omega
  have e9 : qs ((l.take (q + 1)).flatMap (fun p : Pair => [p.name, p.text])) = qs (pre ++ ss.take ss.length) := by rw [flat_take hlt, List.take_length, hpe, hss]
  have ln : (qs ((l.take q).flatMap (fun p : Pair => [p.name, p.text]))).length = pre.length := by rw [hpe]; exact List.length_map _
  have e0 : qs ((l.take q).flatMap (fun p : Pair => [p.name, p.text])) = qs (pre ++ ss.take 0) := by rw [hpe]; simp
  rw [ln, e0] at w
  refine Ai (by omega) (Ai (by omega) (Ei (encP l[q]) (Ai rfl (Ai hcs ?_))))
  intro b7 h40 g40
  have w := w.new g40
  refine w.st1 0 rfl rfl rfl rfl fun h41 w => ?_
  refine w.ldw 0 rfl rfl ?_
  refine call_ret (show CallsH _ _ _ _ (Ret (EachR _ ss)) by rw [hss]; exact two9_calls) ?_
  rintro _ h5 ⟨bx, rfl, Bx, hbx, c5⟩
  have w := w.add (e := .b bx (ss.map .string)) c5 Bx (fun k hk => by simp [En.fp] at hk; omega)
  have w := w.pick [0, 2, 3, 4] (by decide)
  refine loop_intro (fun p : Nat × Value => [(1, .func (.func 162) #[] #[]), (4, ptr b4), (5, ptr b5), (11, .slice (some ⟨b, o, none⟩) l.length cc), (12, .int .i64 l.length), (13, .int .i64 q), (19, .slice (some ⟨bx, 0, none⟩) ss.length ss.length), (20, .int .i64 ss.length), (21, .int .i64 p.1)])
   (fun p h' => p.1 ≤ ss.length ∧ St [] h h' [.b bx (ss.map .string), .o encQ 4 p.2 (qs (pre ++ ss.take p.1)), .b b5 [.int .i64 5, .int .i64 0, .string noText, p.2], .b b4 [.int .i64 0, .int .i64 0, .string ⟨#[]⟩, .slice none 0 0]])
   (fun p => ss.length - p.1) (0, .slice a4 pre.length c4) ⟨rfl, rfl, rfl, rfl, rfl, rfl, rfl, rfl, rfl, trivial⟩ ⟨Nat.zero_le _, w⟩ ?_
  rintro ⟨j, v⟩ h6 ⟨hj, w⟩
  have hj : j ≤ ss.length := hj
  obtain ⟨a6, c6, rfl, _⟩ := (show OL encQ 4 h6 v (qs (pre ++ ss.take j)) from w.get 1 rfl).sl.form
  refine Ai rfl (Ai (fun hlt2 => ?_) (fun hge2 => ?_))
  ·have hlt2 : j < ss.length := by omega
   have hqn : (qs (pre ++ ss.take j)).length ≤ 200002 := by unfold qs; simp; omega
   refine ix9 (w.get 0 rfl) rfl hlt2 (v := .string ss[j]) (by simp [hlt2]) ?_
   refine w.ld1 2 rfl rfl ?_
   refine w.callqv text9_calls fun h7 w => ?_
   intro b9 h8 g8
   have w := w.new g8
   refine w.app 2 rfl encQ_len encQ_one rfl (SL.one encQ_len (x := (4, 0, ss[j])) (w.get 0 rfl)) (by simp only [List.length_singleton]; omega) fun v' h9 w => ?_
   rw [← qs_snoc hlt2] at w
   obtain ⟨a9, c9, rfl, _⟩ := (show OL encQ 4 h9 v' (qs (pre ++ ss.take (j + 1))) from w.get 2 rfl).sl.form
   refine w.st1 3 rfl rfl rfl rfl fun h10 w => ?_
   have w := w.pick [1, 2, 3, 4] (by decide)
   refine Ai rfl (fun z hz => ?_)
   have hz := add_in hz (by omega) (by omega)
   subst hz
   exact Ai rfl (Ei (j + 1, _) (Ai ⟨rfl, rfl, rfl, rfl, rfl, rfl, rfl, rfl, rfl, trivial⟩ (Ai ⟨hlt2, w⟩ (by simp only; omega))))
  ·have hjn : j = ss.length := by omega
   subst hjn
   rw [← e9] at w
   have w := w.pick [1, 2, 3] (by decide)
   refine Ai rfl (fun z hz => ?_)
   have hz := add_in hz (by omega) (by omega)
   subst hz
   exact Ai rfl (Ei (q + 1, _) (Ai ⟨rfl, rfl, rfl, rfl, rfl, rfl, trivial⟩ (Ai ⟨hlt, w⟩ (by simp only; omega))))
 ·have hkl : q = l.length := by omega
  subst hkl
  rw [List.take_length] at w
  refine w.ldw 1 rfl rfl ?_
  refine w.st1 2 rfl rfl rfl rfl fun h7 w => ?_
  refine ⟨_, rfl, cells_blk (w.get 2 rfl), ⟨_, _, _, rfl, (show OL encQ 4 h7 _ (qs (l.flatMap (fun p : Pair => [p.name, p.text]))) from w.get 0 rfl), fun b hb => ?_⟩, w.chg⟩
  rcases (w.ents 0 _ rfl).2 b hb with h9 | h9
  ·exact (nomatch h9)
  ·exact h9
theorem listRank_calls {h : Heap} {v : Value} {l : List Rank} (hs : SL encR h v l) (hl : l.length ≤ 100000) :
  CallsH Tryz.prog 181 [v, .func (.func 183) #[] #[]] h (Ret fun r h' => ListAt h.size h' r (qs (l.flatMap (fun r : Rank => [r.name]))) ∧ Chg [] h h') := by
 obtain ⟨a, cc, rfl, _⟩ := hs.form
 have two : ∀ x : Rank, ((fun r : Rank => [r.name]) x).length ≤ 2 := fun x => by simp
 refine f181_calls (by simp) ?_
 intro b4 h1 g1
 have w := (St.start h).new g1
 intro b5 h2 g2
 have w := w.new g2
 refine w.st1 0 rfl rfl rfl rfl fun h3 w => ?_
 have w := w.empty (enc := encQ) (size := 4)
 refine loop_intro (fun q : Nat × Value => [(1, .func (.func 183) #[] #[]), (4, ptr b4), (5, ptr b5), (11, .slice a l.length cc), (12, .int .i64 l.length), (13, .int .i64 q.1)])
  (fun q h' => q.1 ≤ l.length ∧ St [] h h' [.o encQ 4 q.2 (qs ((l.take q.1).flatMap (fun r : Rank => [r.name]))), .b b5 [.int .i64 5, .int .i64 0, .string noText, q.2], .b b4 [.int .i64 0, .int .i64 0, .string ⟨#[]⟩, .slice none 0 0]])
  (fun q => l.length - q.1) (0, .slice none 0 0) ⟨rfl, rfl, rfl, rfl, rfl, rfl, trivial⟩ ⟨Nat.zero_le _, w⟩ ?_
 rintro ⟨q, v⟩ h4 ⟨hq, w⟩
 have hq : q ≤ l.length := hq
 obtain ⟨a4, c4, rfl, _⟩ := (show OL encQ 4 h4 v (qs ((l.take q).flatMap (fun r : Rank => [r.name]))) from w.get 0 rfl).sl.form
 refine Ai rfl (Ai (fun hlt => ?_) (fun hge => ?_))
 ·have hlt : q < l.length := by omega
  obtain ⟨b, o, rfl⟩ := hs.addr (by omega)
  have hcs := (hs.ext w.chg).cells encR_len (List.getElem?_eq_getElem hlt)
  obtain ⟨ss, hss⟩ : ∃ ss, ss = (fun r : Rank => [r.name]) l[q] := ⟨_, rfl⟩
  obtain ⟨pre, hpe⟩ : ∃ pre, pre = (l.take q).flatMap (fun r : Rank => [r.name]) := ⟨_, rfl⟩
  have hsl : ss.length ≤ 2 := by rw [hss]; exact two _
  have hpre : pre.length ≤ 200000 := by rw [hpe]; have := flat_len two (l.take q); rw [List.length_take] at this; omega
  have e9 : qs ((l.take (q + 1)).flatMap (fun r : Rank => [r.name])) = qs (pre ++ ss.take ss.length) := by rw [flat_take hlt, List.take_length, hpe, hss]
  have ln : (qs ((l.take q).flatMap (fun r : Rank => [r.name]))).length = pre.length := by rw [hpe]; exact List.length_map _
  have e0 : qs ((l.take q).flatMap (fun r : Rank => [r.name])) = qs (pre ++ ss.take 0) := by rw [hpe]; simp
  rw [ln, e0] at w
  refine Ai (by omega) (Ai (by omega) (Ei (encR l[q]) (Ai rfl (Ai hcs ?_))))
  intro b7 h40 g40
  have w := w.new g40
  refine w.st1 0 rfl rfl rfl rfl fun h41 w => ?_
  refine w.ldw 0 rfl rfl ?_
  refine call_ret (show CallsH _ _ _ _ (Ret (EachR _ ss)) by rw [hss]; exact name9_calls) ?_
  rintro _ h5 ⟨bx, rfl, Bx, hbx, c5⟩
  have w := w.add (e := .b bx (ss.map .string)) c5 Bx (fun k hk => by simp [En.fp] at hk; omega)
  have w := w.pick [0, 2, 3, 4] (by decide)
  refine loop_intro (fun p : Nat × Value => [(1, .func (.func 183) #[] #[]), (4, ptr b4), (5, ptr b5), (11, .slice (some ⟨b, o, none⟩) l.length cc), (12, .int .i64 l.length), (13, .int .i64 q), (19, .slice (some ⟨bx, 0, none⟩) ss.length ss.length), (20, .int .i64 ss.length), (21, .int .i64 p.1)])
   (fun p h' => p.1 ≤ ss.length ∧ St [] h h' [.b bx (ss.map .string), .o encQ 4 p.2 (qs (pre ++ ss.take p.1)), .b b5 [.int .i64 5, .int .i64 0, .string noText, p.2], .b b4 [.int .i64 0, .int .i64 0, .string ⟨#[]⟩, .slice none 0 0]])
   (fun p => ss.length - p.1) (0, .slice a4 pre.length c4) ⟨rfl, rfl, rfl, rfl, rfl, rfl, rfl, rfl, rfl, trivial⟩ ⟨Nat.zero_le _, w⟩ ?_
  rintro ⟨j, v⟩ h6 ⟨hj, w⟩
  have hj : j ≤ ss.length := hj
  obtain ⟨a6, c6, rfl, _⟩ := (show OL encQ 4 h6 v (qs (pre ++ ss.take j)) from w.get 1 rfl).sl.form
  refine Ai rfl (Ai (fun hlt2 => ?_) (fun hge2 => ?_))
  ·have hlt2 : j < ss.length := by omega
   have hqn : (qs (pre ++ ss.take j)).length ≤ 200002 := by unfold qs; simp; omega
   refine ix9 (w.get 0 rfl) rfl hlt2 (v := .string ss[j]) (by simp [hlt2]) ?_
   refine w.ld1 2 rfl rfl ?_
   refine w.callqv text9_calls fun h7 w => ?_
   intro b9 h8 g8
   have w := w.new g8
   refine w.app 2 rfl encQ_len encQ_one rfl (SL.one encQ_len (x := (4, 0, ss[j])) (w.get 0 rfl)) (by simp only [List.length_singleton]; omega) fun v' h9 w => ?_
   rw [← qs_snoc hlt2] at w
   obtain ⟨a9, c9, rfl, _⟩ := (show OL encQ 4 h9 v' (qs (pre ++ ss.take (j + 1))) from w.get 2 rfl).sl.form
   refine w.st1 3 rfl rfl rfl rfl fun h10 w => ?_
   have w := w.pick [1, 2, 3, 4] (by decide)
   refine Ai rfl (fun z hz => ?_)
   have hz := add_in hz (by omega) (by omega)
   subst hz
   exact Ai rfl (Ei (j + 1, _) (Ai ⟨rfl, rfl, rfl, rfl, rfl, rfl, rfl, rfl, rfl, trivial⟩ (Ai ⟨hlt2, w⟩ (by simp only; omega))))
  ·have hjn : j = ss.length := by omega
   subst hjn
   rw [← e9] at w
   have w := w.pick [1, 2, 3] (by decide)
   refine Ai rfl (fun z hz => ?_)
   have hz := add_in hz (by omega) (by omega)
   subst hz
   exact Ai rfl (Ei (q + 1, _) (Ai ⟨rfl, rfl, rfl, rfl, rfl, rfl, trivial⟩ (Ai ⟨hlt, w⟩ (by simp only; omega))))
 ·have hkl : q = l.length := by omega
  subst hkl
  rw [List.take_length] at w
  refine w.ldw 1 rfl rfl ?_
  refine w.st1 2 rfl rfl rfl rfl fun h7 w => ?_
  refine ⟨_, rfl, cells_blk (w.get 2 rfl), ⟨_, _, _, rfl, (show OL encQ 4 h7 _ (qs (l.flatMap (fun r : Rank => [r.name]))) from w.get 0 rfl), fun b hb => ?_⟩, w.chg⟩
  rcases (w.ents 0 _ rfl).2 b hb with h9 | h9
  ·exact (nomatch h9)
  ·exact h9
theorem place_calls {h : Heap} {n : Nat} {a : Int} (hn : n < 4611686018427387904) (ha : In64 a) : CallsH Tryz.prog 168 [.int .i64 n, .int .i64 a] h (Ret fun r h' => r = .tuple #[.int .i64 ((placeN n a).getD 0 : Nat), .bool (placeN n a).isSome] ∧ h' = h) := by
 obtain ⟨a0, a1⟩ := ha
 refine f168_calls (by simp) ?_
 refine Ai rfl (Ai (fun q1 => ?_) (fun q1 => ?_))
 ·refine Ai rfl ?_
  have mx : max ((n : Int)) 0 = n := by omega
  rw [mx]
  refine Ai rfl (fun z hz => ?_)
  have hz := add_in hz (by omega) (by omega)
  subst hz
  refine Ai rfl (Ai (fun q2 => ?_) (fun q2 => ?_))
  ·have e : placeN n a = none := by unfold placeN; rw [if_pos q1, if_neg (by omega)]
   rw [e]
   exact ⟨rfl, rfl⟩
  ·have e : placeN n a = some (a + n).toNat := by unfold placeN; rw [if_pos q1, if_pos (by omega)]
   rw [e]
   refine Ai rfl (Ai (fun q3 => absurd q3 (by omega)) (fun q3 => ?_))
   refine ⟨?_, rfl⟩
   have : (((a + n).toNat : Nat) : Int) = a + n := by omega
   show Value.tuple #[.int .i64 (a + n), .bool true] = .tuple #[.int .i64 (((a + n).toNat : Nat) : Int), .bool true]
   rw [this]
 ·refine Ai rfl (Ai (fun q2 => absurd q2 q1) (fun _ => ?_))
  refine Ai rfl (Ai (fun q3 => ?_) (fun q3 => ?_))
  ·have e : placeN n a = none := by unfold placeN; rw [if_neg q1, if_neg (by omega)]
   rw [e]
   exact ⟨rfl, rfl⟩
  ·have e : placeN n a = some a.toNat := by unfold placeN; rw [if_neg q1, if_pos (by omega)]
   rw [e]
   refine ⟨?_, rfl⟩
   have : ((a.toNat : Nat) : Int) = a := by omega
   show Value.tuple #[.int .i64 a, .bool true] = .tuple #[.int .i64 ((a.toNat : Nat) : Int), .bool true]
   rw [this]
theorem span_calls {h : Heap} {n : Nat} {a b : Int} (hn : n < 4611686018427387904) (ha : In64 a) (hb : In64 b) : CallsH Tryz.prog 169 [.int .i64 n, .int .i64 a, .int .i64 b] h (Ret fun r h' => r = .tuple #[.int .i64 ((spanN n a b).1 : Nat), .int .i64 ((spanN n a b).2 : Nat)] ∧ h' = h) := by
 obtain ⟨a0, a1⟩ := ha
 obtain ⟨b0, b1⟩ := hb
 refine f169_calls (by simp) ?_
 refine Ai rfl (Ai (fun q1 => ?_) (fun q1 => ?_))
 ·have e : spanN n a b = (0, 0) := by unfold spanN; rw [if_pos (.inl (by omega))]
  rw [e]
  exact ⟨rfl, rfl⟩
 have last : ∀ {b2 : Int}, b2 = (if b < 0 then b + n else b) → -9223372036854775808 ≤ b2 → b2 ≤ 9223372036854775807 → swp Tryz.prog (.seq (.ops f169r8) (.seq (.seq (.ops f169r9) (.cond (.tmp 29) (.seq (.ops f169r10) .ret) .skip)) (.seq (.ops f169r11) .ret)))
   (retQ [.t 6, .t 7] (Ret fun r h' => r = .tuple #[.int .i64 ((spanN n a b).1 : Nat), .int .i64 ((spanN n a b).2 : Nat)] ∧ h' = h)) (mk [(0, .int .i64 n), (1, .int .i64 (spanA n a)), (2, .int .i64 b2), (8, .int .i64 n)]) [] h := by
  intro b2 hb2 r0 r1
  have hA : 0 ≤ spanA n a ∧ spanA n a ≤ 9223372036854775807 := by unfold spanA; split <;> omega
  refine Ai rfl (fun z hz => ?_)
  have hz : z = (n : Int) - 1 := hz.trans (wrap_in (by omega) (by omega))
  subst hz
  refine Ai rfl ?_
  have hB : min b2 ((n : Int) - 1) = spanB n b := by unfold spanB; rw [← hb2]
  rw [hB]
  have hBr : spanB n b ≤ (n : Int) - 1 := by unfold spanB; exact Int.min_le_right _ _
  refine Ai rfl (Ai (fun q2 => ?_) (fun q2 => ?_))
  ·have e : spanN n a b = (0, 0) := by unfold spanN; rw [if_pos (.inr q2)]
   rw [e]
   exact ⟨rfl, rfl⟩
  ·have e : spanN n a b = ((spanA n a).toNat, (spanB n b).toNat + 1) := by unfold spanN; rw [if_neg (fun hh => by rcases hh with hh | hh; exact q1 (by omega); exact q2 hh)]
   rw [e]
   refine Ai rfl (fun z hz => ?_)
   have hz : z = spanB n b + 1 := hz.trans (wrap_in (by omega) (by omega))
   subst hz
   refine ⟨?_, rfl⟩
   have e1 : (((spanA n a).toNat : Nat) : Int) = spanA n a := by omega
   have e2 : ((((spanB n b).toNat + 1 : Nat)) : Int) = spanB n b + 1 := by omega
   show Value.tuple #[.int .i64 (spanA n a), .int .i64 (spanB n b + 1)] = .tuple #[.int .i64 (((spanA n a).toNat : Nat) : Int), .int .i64 (((spanB n b).toNat + 1 : Nat) : Int)]
   rw [e1, e2]
 have mid : swp Tryz.prog (.seq (.seq (.ops f169r6) (.cond (.tmp 19) (.ops f169r7) .skip)) (.seq (.ops f169r8) (.seq (.seq (.ops f169r9) (.cond (.tmp 29) (.seq (.ops f169r10) .ret) .skip)) (.seq (.ops f169r11) .ret))))
   (retQ [.t 6, .t 7] (Ret fun r h' => r = .tuple #[.int .i64 ((spanN n a b).1 : Nat), .int .i64 ((spanN n a b).2 : Nat)] ∧ h' = h)) (mk [(0, .int .i64 n), (1, .int .i64 (spanA n a)), (2, .int .i64 b), (8, .int .i64 n)]) [] h := by
  refine Ai rfl (Ai (fun q2 => ?_) (fun q2 => ?_))
  ·refine Ai rfl (fun z hz => ?_)
   have hz : z = b + n := hz.trans (wrap_in (by omega) (by omega))
   subst hz
   exact cut_at [(0, .int .i64 n), (1, .int .i64 (spanA n a)), (2, .int .i64 (b + n)), (8, .int .i64 n)] ⟨rfl, rfl, rfl, rfl, trivial⟩ (last (by rw [if_pos q2]) (by omega) (by omega))
  ·exact cut_at [(0, .int .i64 n), (1, .int .i64 (spanA n a)), (2, .int .i64 b), (8, .int .i64 n)] ⟨rfl, rfl, rfl, rfl, trivial⟩ (last (by rw [if_neg q2]) (by omega) (by omega))
 refine Ai rfl (Ai (fun q2 => ?_) (fun q2 => ?_))
 ·refine Ai rfl (fun z hz => ?_)
  have hz : z = a + n := hz.trans (wrap_in (by omega) (by omega))
  subst hz
  refine Ai rfl ?_
  have hA : max 0 (a + (n : Int)) = spanA n a := by unfold spanA; rw [if_pos q2]
  rw [hA]
  exact cut_at [(0, .int .i64 n), (1, .int .i64 (spanA n a)), (2, .int .i64 b), (8, .int .i64 n)] ⟨rfl, rfl, rfl, rfl, trivial⟩ mid
 ·have hA : a = spanA n a := by unfold spanA; rw [if_neg q2]
  have e1 : (mk [(0, Value.int .i64 n), (1, .int .i64 (spanA n a)), (2, .int .i64 b), (8, .int .i64 n)]) = mk [(0, .int .i64 n), (1, .int .i64 a), (2, .int .i64 b), (8, .int .i64 n)] := by rw [← hA]
  exact cut_at [(0, .int .i64 n), (1, .int .i64 a), (2, .int .i64 b), (8, .int .i64 n)] ⟨rfl, rfl, rfl, rfl, trivial⟩ (by rw [← e1]; exact mid)
theorem cellWW {h : Heap} {b o : Nat} {l : List Value} {v : Value} (hb : BlkW h b l) (hv : l[o]? = some v) : cell h b o = some v := by
 obtain ⟨e, k, x, _⟩ := hb
 simp [cell, x, hv]
def upB (c : UInt8) : UInt8 := if 97 ≤ c.toNat ∧ c.toNat ≤ 122 then UInt8.ofNat (c.toNat - 32) else c
def up (s : ByteArray) : ByteArray := ⟨⟨s.data.toList.map upB⟩⟩
def cellB (l : List UInt8) : List Value := l.map fun b => .int .u8 b.toNat
def upTo (bs : List UInt8) (q : Nat) : List UInt8 := (bs.take q).map upB ++ bs.drop q
theorem cellB_len (l : List UInt8) : (cellB l).length = l.length := by simp [cellB]
theorem upTo_len (bs : List UInt8) (q : Nat) : (upTo bs q).length = bs.length := by simp [upTo]; omega
theorem upTo_all (bs : List UInt8) : upTo bs bs.length = bs.map upB := by simp [upTo]
theorem upTo_zero (bs : List UInt8) : upTo bs 0 = bs := by simp [upTo]
theorem upTo_at {bs : List UInt8} {q : Nat} (hq : q < bs.length) : upTo bs q = (bs.take q).map upB ++ (bs[q] :: bs.drop (q + 1)) := by
 rw [upTo, List.drop_eq_getElem_cons hq]
theorem upTo_succ {bs : List UInt8} {q : Nat} (hq : q < bs.length) : upTo bs (q + 1) = (bs.take q).map upB ++ (upB bs[q] :: bs.drop (q + 1)) := by
 rw [upTo, List.take_succ_eq_append_getElem hq, List.map_append, List.append_assoc]; rfl
theorem take_len {bs : List UInt8} {q : Nat} (hq : q < bs.length) : (cellB ((bs.take q).map upB)).length = q := by simp [cellB]; omega
theorem blk_at {bs : List UInt8} {q : Nat} (hq : q < bs.length) (tail : List Value) : cellB (upTo bs q) ++ tail = cellB ((bs.take q).map upB) ++ ([.int .u8 bs[q].toNat] ++ (cellB (bs.drop (q + 1)) ++ tail)) := by
 rw [upTo_at hq]; simp only [cellB, List.map_append, List.map_cons, List.append_assoc, List.cons_append, List.nil_append]
theorem blk_succ {bs : List UInt8} {q : Nat} (hq : q < bs.length) (tail : List Value) : cellB (upTo bs (q + 1)) ++ tail = cellB ((bs.take q).map upB) ++ ([.int .u8 (upB bs[q]).toNat] ++ (cellB (bs.drop (q + 1)) ++ tail)) := by
 rw [upTo_succ hq]; simp only [cellB, List.map_append, List.map_cons, List.append_assoc, List.cons_append, List.nil_append]
theorem cell_q {h : Heap} {b q : Nat} {bs : List UInt8} {tail : List Value} (hb : BlkW h b (cellB (upTo bs q) ++ tail)) (hq : q < bs.length) : cell h b (0 + q * 1) = some (.int .u8 bs[q].toNat) := by
 rw [Nat.zero_add, Nat.mul_one]
 refine cellWW hb ?_
 rw [blk_at hq, List.getElem?_append_right (by rw [take_len hq]; exact Nat.le_refl _), take_len hq]
 simp
theorem put_q {h h' : Heap} {b q : Nat} {bs : List UInt8} {tail : List Value} {z : Int} (hq : q < bs.length) (hz : z = (upB bs[q]).toNat) (hp : PutW h h' b (splice (cellB (upTo bs q) ++ tail) (0 + q * 1) [.int .u8 z])) :
  BlkW h' b (cellB (upTo bs (q + 1)) ++ tail) := by
 have := hp.blk
 rw [Nat.zero_add, Nat.mul_one, blk_at hq] at this
 rw [blk_succ hq, ← hz]
 have e := splice_at (cellB ((bs.take q).map upB)) [.int .u8 bs[q].toNat] (cellB (bs.drop (q + 1)) ++ tail) [.int .u8 z] rfl
 rw [take_len hq] at e
 rwa [e] at this
theorem same_q {bs : List UInt8} {q : Nat} (hq : q < bs.length) (hu : upB bs[q] = bs[q]) : upTo bs (q + 1) = upTo bs q := by
 rw [upTo_succ hq, upTo_at hq, hu]
theorem upB_lo {c : UInt8} (h1 : 97 ≤ (c.toNat : Int)) (h2 : (c.toNat : Int) ≤ 122) : ((upB c).toNat : Int) = c.toNat - 32 := by
 unfold upB
 rw [if_pos ⟨by omega, by omega⟩]
 have : (UInt8.ofNat (c.toNat - 32)).toNat = c.toNat - 32 := by
  rw [UInt8.toNat_ofNat']; omega
 rw [this]; omega
theorem upB_not {c : UInt8} (h : ¬ (97 ≤ (c.toNat : Int) ∧ (c.toNat : Int) ≤ 122)) : upB c = c := by
 unfold upB
 rw [if_neg (fun ⟨a, b⟩ => h ⟨by omega, by omega⟩)]
theorem wrap8 {x : Int} (h0 : 0 ≤ x) (h1 : x < 256) : IntKind.u8.wrap x = x := by
 have e : IntKind.u8.wrap x = x % 256 := by simp [IntKind.wrap, IntKind.bits, IntKind.signed]
 rw [e]; omega
theorem cells_pre {h : Heap} {b : Nat} {l tail : List Value} (hb : BlkW h b (l ++ tail)) : Cells h b 0 l := by
 intro i v hv
 refine cellWW hb ?_
 rw [Nat.zero_add, List.getElem?_append_left (List.getElem?_eq_some_iff.1 hv).1]; exact hv
def ofB (l : List UInt8) : ByteArray := ⟨⟨l⟩⟩
def KeysF (es : List MapEntry) (ks : List (List UInt8)) : Prop := es.map (·.key) = ks.map fun n => .string (ofB n)
theorem KeysF.fits {es : List MapEntry} {ks : List (List UInt8)} (hk : KeysF es ks) : ∀ e ∈ es, fits .str e.key = true := fun e he => by
 have : e.key ∈ es.map (·.key) := List.mem_map_of_mem he
 rw [hk] at this
 obtain ⟨n, _, e1⟩ := List.mem_map.1 this
 rw [← e1]; rfl
theorem KeysF.miss {k : List UInt8} : ∀ {es : List MapEntry} {ks : List (List UInt8)} {i : Nat}, KeysF es ks → k ∉ ks → mfind (.string (ofB k)) es i = none
 |[], ks, i, _, _ => rfl
 |e :: es, [], i, hk, _ => by simp [KeysF] at hk
 |e :: es, n :: ks, i, hk, hn => by
  simp only [KeysF, List.map_cons, List.cons.injEq] at hk
  unfold mfind
  rw [if_neg, KeysF.miss (es := es) (ks := ks) hk.2 (fun h => hn (by simp [h]))]
  intro hs
  have := sameBits_eq (k := .str) (by rfl) (by rw [hk.1]; rfl) hs
  rw [hk.1] at this
  simp [ofB] at this
  exact hn (by simp [this])
theorem none_nil {h : Heap} : CallsH Tryz.prog 42 [.pointer none] h (Ret fun r h' => r = .bool true ∧ h' = h) := by
 refine f42_calls (by simp) ?_
 exact Ai rfl rfl
theorem same_nil {h : Heap} {kb sb mb : Nat} (x : KS h kb sb mb) : CallsH Tryz.prog 37 [ptr kb, .pointer none] h (Ret fun r h' => r = .bool false ∧ h' = h) := by
 refine f37_calls (by simp) ?_
 refine call_ret (none_calls x) ?_
 rintro _ h1 ⟨rfl, e⟩
 have e := e.symm
 subst e
 refine call_ret none_nil ?_
 rintro _ h1 ⟨rfl, e⟩
 have e := e.symm
 subst e
 refine call_ret (none_calls x) ?_
 rintro _ h1 ⟨rfl, e⟩
 have e := e.symm
 subst e
 exact Ai rfl rfl
theorem sl_slc {α : Type} {enc : α → List Value} {size : Nat} {K : Value → Heap → Prop} {h : Heap} {a : Option Addr} {c : Nat} {l : List α} (hsz : ∀ x, (enc x).length = size) (hs : SL enc h (.slice a l.length c) l) {lo hi : Nat} (h0 : lo ≤ hi) (h1 : hi ≤ l.length)
  (hK : ∀ v, (∀ h', SL enc h' (.slice a l.length c) l → SL enc h' v ((l.drop lo).take (hi - lo))) → K v h) : slcR K h size a c (lo : Int) (hi : Int) := by
 have e1 : ((hi : Int) - (lo : Int)).toNat = hi - lo := by omega
 have e2 : ((c : Int) - (lo : Int)).toNat = c - lo := by omega
 have hlc := hs.len.2
 have hlen : ((l.drop lo).take (hi - lo)).length = hi - lo := by simp; omega
 obtain ⟨a', c', he, hc', h2⟩ := id hs
 cases he
 cases a with
 |none =>
  have hz : l.length = 0 := h2
  unfold slcR
  rw [e1, e2]
  refine hK _ fun h' _ => ⟨none, c - lo, by rw [hlen], by rw [hlen]; omega, ?_⟩
  show ((l.drop lo).take (hi - lo)).length = 0
  omega
 |some a =>
  obtain ⟨b, o, sp⟩ := a
  cases sp with
  |none =>
   intro o' ho1 ho2
   rw [e1, e2]
   refine hK _ fun h' hs' => (SL.cut hsz hs' h0 h1 (fun hlt => ?_) (fun hce => ?_))
   ·rw [ho1 (by omega)]; simp
   ·exact ho2 (by omega)
  |some q =>
   have hz : l.length = 0 := h2
   unfold slcR
   rw [e1, e2]
   refine Ai (by omega) (hK _ fun h' _ => ⟨_, c - lo, by rw [hlen], by rw [hlen]; omega, ?_⟩)
   show ((l.drop lo).take (hi - lo)).length = 0
   omega
def DoR (h : Heap) (res : Except ByteArray (Rep × List Eff)) (r : Value) (h' : Heap) : Prop := Chg [] h h' ∧ match res with
 |.ok (q, E) => ∃ v lv, r = .tuple ⟨[v, lv, .bool true]⟩ ∧ RepAt 0 h' v q ∧ SL encD h' lv E ∧ ∀ b ∈ vblk lv, h.size ≤ b
 |.error why => r = .tuple ⟨[repV 2 0 why, .slice none 0 0, .bool true]⟩
abbrev nilV : Value := .slice none 0 0
abbrev c0 (ab kb : Nat) (now : Int) (av : Value) : En := cE ab kb now av noText zeroT false nilV nilV nilV nilV []
def Cmd9 (h0 h : Heap) (ab kb : Nat) (now : Int) (av : Value) (res : Res) : Ending → Heap → Prop :=
 Out9 (fun r h' => ∃ q E key t is pv lw rv lv, res = .ok (q, E) ∧ RepAt h.size h' r q ∧ Tn h0 h (c0 ab kb now av) h' (cE ab kb now av key t is pv lw rv lv E)) (fun why h' => res = .error why ∧ Chg (c0 ab kb now av).fp h h')
structure T9 (t : Thing) : Prop where
 ps : t.pairs.length ≤ 2000
 ls : t.list.length ≤ 2000
 rs : t.ranks.length ≤ 2000
 pt : ∀ p ∈ t.pairs, p.text.size ≤ 2000
 ri : ∀ r ∈ t.ranks, In64 r.score
 rz : ∀ r ∈ t.ranks, r.name.size ≤ 2000
 lz : ∀ x ∈ t.list, x.size ≤ 2000
def S9 (S : Space) : Prop := ∀ p ∈ S, T9 p.2
theorem getS_mem {S : Space} {key : ByteArray} {now : Int} {t : Thing} (h : getS S key now = some t) : (key, t) ∈ S := by
 unfold getS at h
 split at h
 ·rename_i u hu
  split at h
  ·cases h
  ·cases h; exact findS_mem hu
 ·cases h
theorem S9.get {S : Space} (s : S9 S) (key : ByteArray) (now : Int) : T9 ((getS S key now).getD zeroT) := by
 cases hg : getS S key now with
 |none => exact ⟨Nat.zero_le _, Nat.zero_le _, Nat.zero_le _, fun p hp => (nomatch hp), fun r hr => (nomatch hr), fun r hr => (nomatch hr), fun x hx => (nomatch hx)⟩
 |some t => exact s _ (getS_mem hg)
section
variable {h0 h h1 h2 h' : Heap} {ab kb sb mb c b2 : Nat} {now lo hi kd items k n : Int} {av lv pv lw rv : Value} {key s why : ByteArray} {t : Thing} {is : Bool} {A : List ByteArray} {L E : List Eff} {m : List KI} {S : Space} {M : List En} {T : List Nat} {e e' : En} {res : Res} {q : Rep} {ls : List (Int × Int × ByteArray)}
theorem bad9 (he : res = .error why) (hc : Chg (c0 ab kb now av).fp h h') : ∃ w, stop9 why = stop9 w ∧ res = .error w ∧ Chg (c0 ab kb now av).fp h h' := ⟨why, rfl, he, hc⟩
theorem fin9 (x : As h0 h (c0 ab kb now av)) (w : St (c0 ab kb now av).fp h h' M) (i j : Nat) (hi : M[i]? = some (.b b2 [.int .i64 k, .int .i64 n, .string s, .slice none 0 0])) (hj : M[j]? = some (cE ab kb now av key t is pv lw rv lv E)) (he : res = .ok (rep k n s, E)) :
  ∃ vs, vs.length = 4 ∧ Cells h' b2 0 vs ∧ Cmd9 h0 h ab kb now av res (.returned (.agg ⟨vs⟩)) h' :=
 ⟨_, rfl, cells_blk (w.get i hi), rep k n s, E, key, t, is, pv, lw, rv, lv, he, ⟨none, 0, 0, rfl, SL.nil, fun b hb => (nomatch (show b ∈ ([] : List Nat) from hb))⟩, x.out w j hj⟩
theorem finl9 {a : Option Addr} {n c : Nat} (x : As h0 h (c0 ab kb now av)) (w : St (c0 ab kb now av).fp h h' M) (i j l : Nat) (hi : M[i]? = some (.b b2 [.int .i64 5, .int .i64 0, .string noText, .slice a n c])) (hj : M[j]? = some (cE ab kb now av key t is pv lw rv lv E))
  (hl : M[l]? = some (.o encQ 4 (.slice a n c) ls)) (hlb : ∀ b ∈ ablk a, h.size ≤ b) (he : res = .ok (⟨5, 0, noText, ls⟩, E)) : ∃ vs, vs.length = 4 ∧ Cells h' b2 0 vs ∧ Cmd9 h0 h ab kb now av res (.returned (.agg ⟨vs⟩)) h' :=
 ⟨_, rfl, cells_blk (w.get i hi), ⟨5, 0, noText, ls⟩, E, key, t, is, pv, lw, rv, lv, he, ⟨a, n, c, rfl, (show OL encQ 4 h' (.slice a n c) ls from w.get l hl).sl, hlb⟩, x.out w j hj⟩
theorem _root_.Go.Sx.St.thc (w : St T h1 h M) (i : Nat) (hi : M[i]? = some (cE ab kb now av key t is pv lw rv lv L)) : SL encP h pv t.pairs ∧ SL encS h lw t.list ∧ SL encR h rv t.ranks := by
 obtain ⟨_, _, hT, _⟩ := w.get i hi
 obtain ⟨p, l, r, e, h1, h2, h3⟩ := hT
 simp only [cellsT, List.cons.injEq, and_true, true_and] at e
 obtain ⟨rfl, rfl, rfl⟩ := e
 exact ⟨h1, h2, h3⟩
theorem sl_ix {i : Int} {b o n cc : Nat} {l : List ByteArray} {K : Value → Prop} (hs : SL encS h (.slice (some ⟨b, o, none⟩) n cc) l) (j : Nat) (e : i = j) (hj : l[j]? = some s) (hk : K (.string s)) : 0 ≤ i ∧ i < (n : Int) ∧ ∃ v, cell h b (o + i.toNat * 1) = some v ∧ K v := by
 subst e
 have h1 := (List.getElem?_eq_some_iff.1 hj).1
 have hcs := hs.cells encS_len hj
 have hn := hs.len.1
 refine ⟨by omega, by omega, _, ?_, hk⟩
 have := hcs 0 _ rfl
 simpa using this
theorem kindly_ok {kd : Int} {f : Thing → Res} (hk : okK kd (getS S key now) = true) : kindly S now kd key f = f ((getS S key now).getD zeroT) := by
 unfold kindly
 cases hg : getS S key now with
 |none => rfl
 |some t => rw [hg] at hk; exact if_pos (of_decide_eq_true hk)
theorem kindly_no {kd : Int} {f : Thing → Res} (hk : okK kd (getS S key now) = false) : kindly S now kd key f = .error wType := by
 unfold kindly
 cases hg : getS S key now with
 |none => rw [hg] at hk; cases hk
 |some t => rw [hg] at hk; exact if_neg (of_decide_eq_false hk)
def NoB (S : Space) (now : Int) (A : List ByteArray) (lo hi kd : Int) (why : ByteArray) : Prop :=
 (¬ (lo ≤ A.length ∧ (A.length : Int) ≤ hi) ∧ why = wArgs) ∨ (lo ≤ A.length ∧ (A.length : Int) ≤ hi) ∧ ∃ k0, A[0]? = some k0 ∧ okK kd (getS S k0 now) = false ∧ why = wType
theorem NoB.a1 {f : ByteArray → Thing → Res} (h : NoB S now A 1 1 kd why) : arg1 (fun key => kindly S now kd key (f key)) A = .error why := by
 rcases h with ⟨hb, rfl⟩ | ⟨hb, k0, hk0, hk, rfl⟩
 ·exact arg1_bad hb
 ·obtain ⟨k1, rfl⟩ := one_arg hb
  cases hk0
  exact kindly_no hk
theorem NoB.a2 {f : ByteArray → ByteArray → Thing → Res} (h : NoB S now A 2 2 kd why) : arg2 (fun key n => kindly S now kd key (f key n)) A = .error why := by
 rcases h with ⟨hb, rfl⟩ | ⟨hb, k0, hk0, hk, rfl⟩
 ·exact arg2_bad hb
 ·obtain ⟨k1, k2, rfl⟩ := two_arg hb
  cases hk0
  exact kindly_no hk
theorem three_arg {α : Type} {A : List α} (h : (3 : Int) ≤ A.length ∧ (A.length : Int) ≤ 3) : ∃ x y z, A = [x, y, z] := by
 match A, h with
 |[], h => simp at h
 |[x], h => simp at h
 |[x, y], h => simp at h
 |[x, y, z], _ => exact ⟨x, y, z, rfl⟩
 |x :: y :: z :: u :: l, h => simp at h; omega
theorem arg3_bad {f : ByteArray → ByteArray → ByteArray → Res} {A : List ByteArray} (h : ¬ ((3 : Int) ≤ A.length ∧ (A.length : Int) ≤ 3)) : arg3 f A = .error wArgs := by
 match A, h with
 |[], _ => rfl
 |[x], _ => rfl
 |[x, y], _ => rfl
 |[x, y, z], h => exact absurd ⟨by simp, by simp⟩ h
 |x :: y :: z :: u :: l, _ => rfl
theorem mkOk9 {ok : Bool} {r : Rep} (h : items ≤ 65536 ∧ key.size ≤ 1048576 ∧ ok = true) : makes S now key items ok r E = .ok (r, dropsS S key now ++ E) := if_pos h
theorem mkNo9 {ok : Bool} {r : Rep} (h : ¬ (items ≤ 65536 ∧ key.size ≤ 1048576 ∧ ok = true)) : makes S now key items ok r E = .error wLong := if_neg h
def accE (S : Space) (key : ByteArray) (now : Int) (D : List Eff) (q : Nat) : List Eff := if q = 0 then [] else dropsS S key now ++ D.take q
theorem acc_put {D : List Eff} {q : Nat} {d : Eff} (hq : D[q]? = some { d with key := key }) : putL S key now (accE S key now D q) d = accE S key now D (q + 1) := by
 have hl := (List.getElem?_eq_some_iff.1 hq).1
 have hd := (List.getElem?_eq_some_iff.1 hq).2
 unfold putL
 have e1 : accE S key now D (q + 1) = dropsS S key now ++ (D.take q ++ [{ d with key := key }]) := by
  unfold accE
  rw [if_neg (by omega), List.take_succ_eq_append_getElem hl, hd]
 rw [e1]
 by_cases h0 : q = 0
 ·subst h0
  rw [show accE S key now D 0 = [] from if_pos rfl, if_pos rfl]
  simp
 ·have e2 : accE S key now D q = dropsS S key now ++ D.take q := by unfold accE; rw [if_neg h0]
  have hne : dropsS S key now ++ D.take q ≠ [] := by
   intro he
   have : (dropsS S key now ++ D.take q).length = 0 := by rw [he]; rfl
   rw [List.length_append, List.length_take] at this
   omega
  rw [e2, if_neg hne, List.append_assoc]
theorem acc_len (D : List Eff) (q : Nat) (hq : q ≤ D.length) : (accE S key now D q).length ≤ q + 1 := by
 unfold accE
 split
 ·simp
 ·have := drops_len S key now
  simp; omega
theorem acc_all {D : List Eff} (hD : D ≠ []) : accE S key now D D.length = dropsS S key now ++ D := by
 unfold accE
 rw [if_neg (fun h => hD (List.eq_nil_of_length_eq_zero h)), List.take_length]
end
end Go.Proofs.YtjnijlnmbjjgpaaGreatDoor
set_option maxRecDepth 100000
namespace Go.Proofs.YtjnijlnmbjjgpaaGreatDoor.C
open Go Go.Sx Go.Sx.S
def f13r0 : LS := [o 0 (.mv (b false))]
def f13r1 : LS := [o 5 (.call 16 []),o 1 (.mv (t 5))]
def f13r2 : LS := [o 7 (.mv (t 1)),o 8 (.bslice [(.string ⟨#[]⟩), (.string ⟨#[]⟩), (.string ⟨#[]⟩)] 3 [(0, 1), (1, 1), (2, 1)] [(.const (.string ⟨#[115, 97, 100, 100]⟩)), (.const (.string ⟨#[97]⟩)), (.const (.string ⟨#[109]⟩))]),o 9 (.call 20 [(t 7), (i 0), (t 8)]),o 6 (.mv (t 9)),o 10 (.ext (t 6) 0),o 11 (.ext (t 6) 1),o 12 (.ext (t 6) 2),o 2 (.new [(.int .i64 0), (.int .i64 0), (.string ⟨#[]⟩), (.slice none 0 0)]),
 q (.st 4 (t 2) (t 10)),o 3 (.mv (t 11)),o 4 (.mv (t 12))]
def f13r3 : LS := [o 13 (.mv (t 4)),o 14 (.mv (t 13)),
 g 15 14 (.fa 0 (t 2)),
 g 16 14 (.ld1 (t 15)),
 g 17 14 (.cmp .eql (t 16) (i 3)),o 18 (.pick (t 14) (t 17) (b false)),o 19 (.mv (t 18)),
 g 20 19 (.fa 1 (t 2)),
 g 21 19 (.ld1 (t 20)),
 g 22 19 (.cmp .eql (t 21) (i 1)),o 23 (.pick (t 19) (t 22) (b false)),o 24 (.mv (t 23)),
 g 25 24 (.mv (t 3)),
 g 26 24 (.len (t 25)),
 g 27 24 (.cmp .eql (t 26) (i 1)),o 28 (.pick (t 24) (t 27) (b false)),o 29 (.mv (t 28)),
 g 30 29 (.mv (t 3)),
 g 31 29 (.ixs 5 (t 30) (i 0)),
 g 32 29 (.fa 0 (t 31)),
 g 33 29 (.ld1 (t 32)),
 g 34 29 (.cmp .eql (t 33) (i 12)),o 35 (.pick (t 29) (t 34) (b false)),o 36 (.mv (t 35)),
 g 37 36 (.mv (t 3)),
 g 38 36 (.ixs 5 (t 37) (i 0)),
 g 39 36 (.fa 2 (t 38)),
 g 40 36 (.ld1 (t 39)),
 g 41 36 (.cmp .eql (t 40) (.const (.string ⟨#[109]⟩))),o 42 (.pick (t 36) (t 41) (b false)),o 0 (.mv (t 42))]
def f13 : SCode := (.seq (.ops f13r0) (.seq (.ops f13r1) (.seq (.ops f13r2) (.seq (.ops f13r3) .ret))))
theorem f13_calls : Sound Tryz.prog 13 43 f13 [.t 0] := sound_of mixed Tryz.func13 rfl (by kernel_rfl) (by kernel_rfl) (by kernel_rfl)
def f20r0 : LS := [o 6 (.new [(.int .i64 0), (.int .i64 0), (.string ⟨#[]⟩), (.slice none 0 0)]),o 7 (.new [(.slice none 0 0)]),o 8 (.mv (b false))]
def f20r1 : LS := [o 11 (.mv (t 2)),o 12 (.len (t 11)),o 13 (.cmp .eql (t 12) (i 0)),o 14 (.mv (t 13)),
 n 15 14 (.mv (t 0)),
 n 16 14 (.call 37 [(t 15), (.const (.pointer none))]),o 17 (.pick (t 14) (b true) (t 16))]
def f20r2 : LS := [o 18 (.build [(.int .i64 0), (.int .i64 0), (.string ⟨#[]⟩), (.slice none 0 0)] [] []),
 q (.st 4 (t 6) (t 18)),
 q (.st 1 (t 7) (.const (.slice none 0 0))),o 8 (.mv (b false))]
def f20r3 : LS := [o 21 (.mv (t 2)),o 22 (.ixs 1 (t 21) (i 0)),o 23 (.ld1 (t 22)),o 20 (.callq 38 []),o 24 (.callq 39 [(t 23)]),o 25 (.look .str .nilFunc true (t 20) (t 24)),o 19 (.mv (t 25)),o 26 (.ext (t 19) 0),o 27 (.ext (t 19) 1),o 9 (.mv (t 26)),o 8 (.mv (t 27))]
def f20r4 : LS := [o 28 (.mv (t 8)),o 29 (.un .not (t 28))]
def f20r5 : LS := [o 30 (.build [(.int .i64 0), (.int .i64 0), (.string ⟨#[]⟩), (.slice none 0 0)] [] []),
 q (.st 4 (t 6) (t 30)),
 q (.st 1 (t 7) (.const (.slice none 0 0))),o 8 (.mv (b false))]
def f20r6 : LS := [o 31 (.fn 40 [] [(t 6), (t 7)])]
def f20r7 : LS := [o 32 (.mv (t 0)),o 33 (.mv (t 1)),o 34 (.mv (t 2)),o 35 (.slc 1 (t 34) (some (i 1)) none),o 36 (.build [(.int .i64 0), (.string ⟨#[]⟩), (.slice none 0 0), (.slice none 0 0), (.slice none 0 0), (.bool false), (.int .i64 0), (.bool false), (.pointer none), (.int .i64 0), (.string ⟨#[]⟩), (.slice none 0 0), (.slice none 0 0)] [(8, 1), (9, 1), (11, 1)] [(t 32), (t 33), (t 35)]),o 37 (.box (t 36)),o 10 (.mv (t 37))]
def f20r8 : LS := [o 38 (.mv (t 9)),o 39 (.mv (t 10)),o 40 (.callv (t 38) [(t 39)]),
 q (.st 4 (t 6) (t 40))]
def f20p9 : LS := [o 41 (.ldn 4 (t 6)),o 42 (.mv (t 10)),o 43 (.nilck (t 42)),o 44 (.fa 12 (t 43))]
def f20r9 : LS := [o 45 (.ld1 (t 44)),
 q (.st 4 (t 6) (t 41)),
 q (.st 1 (t 7) (t 45)),o 8 (.mv (b true))]
def f20s9 : LS := [
 q (.st 4 (t 6) (t 41)),o 45 (.ld1 (t 44)),
 q (.st 1 (t 7) (t 45)),o 8 (.mv (b true))]
def f20 : SCode := (.seq (.ops f20r0) (.seq (.seq (.ops f20r1) (.cond (t 17) (.seq (.ops f20r2) .ret) .skip)) (.seq (.ops f20r3) (.seq (.seq (.ops f20r4) (.cond (t 29) (.seq (.ops f20r5) .ret) .skip)) (.seq (.dfr f20r6 none (t 31) []) (.seq (.ops f20r7) (.seq (.ops f20r8) (.seq (.two f20p9 f20r9 f20s9) .ret))))))))
def f38r0 : LS := [o 0 (.mv (.const (.map none)))]
def f38r1 : LS := [o 1 (.mkm),
 q (.mup .str (t 1) (.const (.string ⟨#[72, 83, 69, 84]⟩)) (u 81)),
 q (.mup .str (t 1) (.const (.string ⟨#[72, 71, 69, 84]⟩)) (u 82)),
 q (.mup .str (t 1) (.const (.string ⟨#[72, 68, 69, 76]⟩)) (u 83)),
 q (.mup .str (t 1) (.const (.string ⟨#[72, 76, 69, 78]⟩)) (u 84)),
 q (.mup .str (t 1) (.const (.string ⟨#[72, 71, 69, 84, 65, 76, 76]⟩)) (u 85)),
 q (.mup .str (t 1) (.const (.string ⟨#[72, 73, 78, 67, 82, 66, 89]⟩)) (u 86)),
 q (.mup .str (t 1) (.const (.string ⟨#[76, 80, 85, 83, 72]⟩)) (u 87)),
 q (.mup .str (t 1) (.const (.string ⟨#[82, 80, 85, 83, 72]⟩)) (u 88)),
 q (.mup .str (t 1) (.const (.string ⟨#[76, 80, 79, 80]⟩)) (u 89)),
 q (.mup .str (t 1) (.const (.string ⟨#[82, 80, 79, 80]⟩)) (u 90)),
 q (.mup .str (t 1) (.const (.string ⟨#[76, 76, 69, 78]⟩)) (u 91)),
 q (.mup .str (t 1) (.const (.string ⟨#[76, 73, 78, 68, 69, 88]⟩)) (u 92)),
 q (.mup .str (t 1) (.const (.string ⟨#[76, 82, 65, 78, 71, 69]⟩)) (u 93)),
 q (.mup .str (t 1) (.const (.string ⟨#[76, 83, 69, 84]⟩)) (u 94)),
 q (.mup .str (t 1) (.const (.string ⟨#[83, 65, 68, 68]⟩)) (u 95)),
 q (.mup .str (t 1) (.const (.string ⟨#[83, 82, 69, 77]⟩)) (u 96)),
 q (.mup .str (t 1) (.const (.string ⟨#[83, 73, 83, 77, 69, 77, 66, 69, 82]⟩)) (u 97)),
 q (.mup .str (t 1) (.const (.string ⟨#[83, 67, 65, 82, 68]⟩)) (u 98)),
 q (.mup .str (t 1) (.const (.string ⟨#[83, 77, 69, 77, 66, 69, 82, 83]⟩)) (u 99)),
 q (.mup .str (t 1) (.const (.string ⟨#[83, 73, 78, 84, 69, 82]⟩)) (u 100)),
 q (.mup .str (t 1) (.const (.string ⟨#[90, 65, 68, 68]⟩)) (u 101)),
 q (.mup .str (t 1) (.const (.string ⟨#[90, 82, 69, 77]⟩)) (u 102)),
 q (.mup .str (t 1) (.const (.string ⟨#[90, 83, 67, 79, 82, 69]⟩)) (u 103)),
 q (.mup .str (t 1) (.const (.string ⟨#[90, 73, 78, 67, 82, 66, 89]⟩)) (u 104)),
 q (.mup .str (t 1) (.const (.string ⟨#[90, 67, 65, 82, 68]⟩)) (u 105)),
 q (.mup .str (t 1) (.const (.string ⟨#[90, 82, 65, 78, 75]⟩)) (u 106)),
 q (.mup .str (t 1) (.const (.string ⟨#[90, 82, 65, 78, 71, 69]⟩)) (u 107)),
 q (.mup .str (t 1) (.const (.string ⟨#[90, 82, 65, 78, 71, 69, 66, 89, 83, 67, 79, 82, 69]⟩)) (u 108)),o 2 (.mv (t 1)),o 0 (.mv (t 2))]
def f38 : SCode := (.seq (.ops f38r0) (.seq (.ops f38r1) .ret))
theorem f38_calls : Sound Tryz.prog 38 3 f38 [.t 0] := sound_of mixed Tryz.func38 rfl (by kernel_rfl) (by kernel_rfl) (by kernel_rfl)
def f39r0 : LS := [o 2 (.mv e)]
def f39r1 : LS := [o 6 (.mv (t 0)),o 7 (.byts (t 6)),o 3 (.mv (t 7))]
def f39r2 : LS := [o 8 (.mv (t 3)),o 9 (.len (t 8)),o 10 (.mv (i 0))]
def f39r3 : LS := [o 11 (.cmp .lss (t 10) (t 9))]
def f39r4 : LS := [o 12 (.mv (t 10)),o 13 (.ixs 1 (t 8) (t 10)),o 14 (.ld1 (t 13)),o 4 (.mv (t 12)),o 5 (.mv (t 14))]
def f39r5 : LS := [o 15 (.mv (t 5)),o 16 (.cmp .geq (t 15) (.const (.int .u8 97))),o 17 (.mv (t 16)),
 g 18 17 (.mv (t 5)),
 g 19 17 (.cmp .leq (t 18) (.const (.int .u8 122))),o 20 (.pick (t 17) (t 19) (b false))]
def f39r6 : LS := [o 21 (.mv (t 3)),o 22 (.mv (t 4)),o 23 (.mv (t 5)),o 24 (.ar .sub (t 23) (.const (.int .u8 97))),o 25 (.ar .add (t 24) (.const (.int .u8 65))),o 26 (.ixs 1 (t 21) (t 22)),
 q (.stb (t 26) (t 25))]
def f39r7 : LS := [o 27 (.ar .add (t 10) (i 1)),o 10 (.mv (t 27))]
def f39l8 : SCode := (.seq (.ops f39r3) (.seq (.cond (t 11) .skip (.exit 0)) (.seq (.block 1 (.seq (.ops f39r4) (.seq (.ops f39r5) (.cond (t 20) (.ops f39r6) .skip)))) (.ops f39r7))))
def f39r9 : LS := [o 28 (.mv (t 3)),o 29 (.bstr (t 28)),o 2 (.mv (t 29))]
def f39 : SCode := (.seq (.ops f39r0) (.seq (.ops f39r1) (.seq (.seq (.ops f39r2) (.block 0 (.loop f39l8))) (.seq (.ops f39r9) .ret))))
theorem f39_calls : Sound Tryz.prog 39 30 f39 [.t 2] := sound_of mixed Tryz.func39 rfl (by kernel_rfl) (by kernel_rfl) (by kernel_rfl)
end Go.Proofs.YtjnijlnmbjjgpaaGreatDoor.C
namespace Go.Proofs.YtjnijlnmbjjgpaaGreatDoor
open Go Go.Sx C
theorem lword_calls {h : Heap} {s : ByteArray} (hs : s.size < 4611686018427387904) : CallsH Tryz.prog 39 [.string s] h (Ret fun r h' => r = .string (up s) ∧ Chg [] h h') := by
 obtain ⟨⟨bs⟩⟩ := s
 have hs : bs.length < 4611686018427387904 := hs
 refine f39_calls (by simp) ?_
 intro c b h1 hc g
 have hc : bs.length ≤ c := hc
 obtain ⟨tail, ht⟩ : ∃ tail, tail = List.replicate (c - bs.length) (Value.int .u8 0) := ⟨_, rfl⟩
 have gb : BlkW h1 b (cellB bs ++ tail) := by rw [ht]; exact g.blk
 refine loop_intro (fun q : Nat => [(3, .slice (some ⟨b, 0, none⟩) bs.length c), (8, .slice (some ⟨b, 0, none⟩) bs.length c), (9, .int .i64 bs.length), (10, .int .i64 q)]) (fun q h' => q ≤ bs.length ∧ BlkW h' b (cellB (upTo bs q) ++ tail) ∧ h'.size = h1.size ∧ ∀ k, k ≠ b → h'[k]? = h1[k]?) (fun q => bs.length - q) 0 ⟨rfl, rfl, rfl, rfl, trivial⟩ ⟨Nat.zero_le _, by rw [upTo_zero]; exact gb, rfl, fun _ _ => rfl⟩ ?_
 rintro q h2 ⟨hq, hb, hsz, hold⟩
 have next : ∀ {h3 : Heap}, q < bs.length → BlkW h3 b (cellB (upTo bs (q + 1)) ++ tail) → h3.size = h1.size → (∀ k, k ≠ b → h3[k]? = h1[k]?) → q + 1 ≤ bs.length ∧ BlkW h3 b (cellB (upTo bs (q + 1)) ++ tail) ∧ h3.size = h1.size ∧ ∀ k, k ≠ b → h3[k]? = h1[k]? := fun a b c d => ⟨a, b, c, d⟩
 refine Ai rfl (Ai (fun hlt => ?_) (fun hge => ?_))
 ·have hlt : q < bs.length := by omega
  have cq := cell_q hb hlt
  refine Ai (by omega) (Ai (by omega) (Ei _ (Ai cq (Ai rfl (Ai (fun h97 => ?_) (fun hn => ?_))))))
  ·refine Ai rfl (Ai (fun h122 => ?_) (fun hn => ?_))
   ·refine Ai rfl (fun z hz => Ai rfl (fun z1 hz1 => ?_))
    have hz : z = (bs[q].toNat : Int) - 97 := by rw [hz]; exact wrap8 (by omega) (by omega)
    have hz1 : z1 = (upB bs[q]).toNat := by
     rw [upB_lo h97 h122, hz1, hz]
     have := wrap8 (x := (bs[q].toNat : Int) - 97 + 65) (by omega) (by omega)
     exact this.trans (by omega)
    refine Ai (by omega) (Ai (by omega) (Ei _ (Ai hb (Ai ?_ (Ai rfl (Ai (Go.Sx.ones1 rfl) fun h3 p => ?_))))))
    ·show 0 + q * 1 + 1 ≤ _
     rw [List.length_append, cellB_len, upTo_len]; omega
    ·refine Ai rfl (fun z2 hz2 => ?_)
     have hz2 := add_in hz2 (by omega) (by omega)
     subst hz2
     exact Ai rfl (Ei (q + 1) (Ai ⟨rfl, rfl, rfl, rfl, trivial⟩ (Ai (next hlt (put_q hlt hz1 p) (p.size.trans hsz) fun k hk => (p.old k hk).trans (hold k hk)) (by omega))))
   ·refine Ai rfl (fun z2 hz2 => ?_)
    have hz2 := add_in hz2 (by omega) (by omega)
    subst hz2
    exact Ai rfl (Ei (q + 1) (Ai ⟨rfl, rfl, rfl, rfl, trivial⟩ (Ai (next hlt (by rw [same_q hlt (upB_not fun hh => hn hh.2)]; exact hb) hsz hold) (by omega))))
  ·refine Ai rfl (fun z2 hz2 => ?_)
   have hz2 := add_in hz2 (by omega) (by omega)
   subst hz2
   exact Ai rfl (Ei (q + 1) (Ai ⟨rfl, rfl, rfl, rfl, trivial⟩ (Ai (next hlt (by rw [same_q hlt (upB_not fun hh => hn hh.1)]; exact hb) hsz hold) (by omega))))
 ·have hkl : q = bs.length := by omega
  subst hkl
  rw [upTo_all] at hb
  refine Ei (bs.map upB) (Ai (by simp) (Ai (cells_pre hb) (Ai rfl ?_)))
  refine ⟨by rw [hsz, g.size]; omega, fun k hk _ => ?_⟩
  have := g.id
  rw [hold k (by omega), g.old k hk]
def cmd9 : List (List UInt8 × Nat) := [
 ([72, 83, 69, 84], 81),
 ([72, 71, 69, 84], 82),
 ([72, 68, 69, 76], 83),
 ([72, 76, 69, 78], 84),
 ([72, 71, 69, 84, 65, 76, 76], 85),
 ([72, 73, 78, 67, 82, 66, 89], 86),
 ([76, 80, 85, 83, 72], 87),
 ([82, 80, 85, 83, 72], 88),
 ([76, 80, 79, 80], 89),
 ([82, 80, 79, 80], 90),
 ([76, 76, 69, 78], 91),
 ([76, 73, 78, 68, 69, 88], 92),
 ([76, 82, 65, 78, 71, 69], 93),
 ([76, 83, 69, 84], 94),
 ([83, 65, 68, 68], 95),
 ([83, 82, 69, 77], 96),
 ([83, 73, 83, 77, 69, 77, 66, 69, 82], 97),
 ([83, 67, 65, 82, 68], 98),
 ([83, 77, 69, 77, 66, 69, 82, 83], 99),
 ([83, 73, 78, 84, 69, 82], 100),
 ([90, 65, 68, 68], 101),
 ([90, 82, 69, 77], 102),
 ([90, 83, 67, 79, 82, 69], 103),
 ([90, 73, 78, 67, 82, 66, 89], 104),
 ([90, 67, 65, 82, 68], 105),
 ([90, 82, 65, 78, 75], 106),
 ([90, 82, 65, 78, 71, 69], 107),
 ([90, 82, 65, 78, 71, 69, 66, 89, 83, 67, 79, 82, 69], 108)]
def look9 : List (List UInt8 × Nat) → ByteArray → Option Nat
 |[], _ => none
 |(n, g) :: l, w => if w = ofB n then some g else look9 l w
def Found9 (W : ByteArray) (ms : List MapEntry) : Option Nat → Prop
 |some g => ∃ j, mfind (.string W) ms 0 = some (j, .func (.func g) #[] #[])
 |none => mfind (.string W) ms 0 = none
def Cm9 : List MapEntry → List (List UInt8 × Nat) → Prop
 |[], [] => True
 |e :: es, (n, g) :: ns => e.key = .string (ofB n) ∧ e.val = .func (.func g) #[] #[] ∧ Cm9 es ns
 |_, _ => False
theorem Cm9.snoc : ∀ {es : List MapEntry} {ns : List (List UInt8 × Nat)} {n : List UInt8} {g c : Nat}, Cm9 es ns → Cm9 (es ++ [{ key := .string (ofB n), val := .func (.func g) #[] #[], born := c }]) (ns ++ [(n, g)])
 |[], [], _, _, _, _ => ⟨rfl, rfl, trivial⟩
 |_ :: _, (_, _) :: _, _, _, _, ⟨h1, h2, h3⟩ => ⟨h1, h2, Cm9.snoc h3⟩
 |[], _ :: _, _, _, _, h => h.elim
 |_ :: _, [], _, _, _, h => h.elim
theorem Cm9.keys : ∀ {es : List MapEntry} {ns : List (List UInt8 × Nat)}, Cm9 es ns → KeysF es (ns.map Prod.fst)
 |[], [], _ => rfl
 |e :: es, (n, g) :: ns, ⟨h1, _, h3⟩ => by
  have := Cm9.keys h3
  unfold KeysF at this ⊢
  simp [h1, this]
 |[], _ :: _, h => h.elim
 |_ :: _, [], h => h.elim
theorem Cm9.found (W : ByteArray) : ∀ {es : List MapEntry} {ns : List (List UInt8 × Nat)} (i : Nat), Cm9 es ns → (match look9 ns W with | some g => ∃ j, mfind (.string W) es i = some (j, .func (.func g) #[] #[]) | none => mfind (.string W) es i = none)
 |[], [], _, _ => rfl
 |e :: es, (n, g) :: ns, i, ⟨h1, h2, h3⟩ => by
  have ih := Cm9.found W (i + 1) h3
  unfold look9
  by_cases hw : W = ofB n
  ·rw [if_pos hw]
   refine ⟨i, ?_⟩
   unfold mfind
   rw [h1, hw, if_pos (sameBits_refl (k := .str) rfl), h2]
  ·rw [if_neg hw]
   have hn : ¬ (Instr.sameBits 10000 (.string W) e.key = true) := fun hs => by
    have := sameBits_eq (k := .str) (by rfl) (by rw [h1]; rfl) hs
    rw [h1] at this
    simp at this
    exact hw this
   cases hl : look9 ns W with
   |none =>
    rw [hl] at ih
    show mfind _ (e :: es) i = none
    unfold mfind
    rw [if_neg hn]; exact ih
   |some g2 =>
    rw [hl] at ih
    obtain ⟨j, h7⟩ := ih
    refine ⟨j, ?_⟩
    unfold mfind
    rw [if_neg hn]; exact h7
 |[], _ :: _, _, h => h.elim
 |_ :: _, [], _, h => h.elim
def mupO (p : List UInt8 × Nat) : SOper := ⟨none, none, .mup .str (.tmp 1) (.const (.string (ofB p.1))) (.func p.2)⟩
theorem mup_go {Qp : List PanicEntry → Heap → Prop} {K : Env → Heap → Prop} {h0 : Heap} {mb : Nat} {σ : Env} {rest : List SOper} (hσ : σ 1 = some (.map (some mb))) (k : ∀ h' es c, St [] h0 h' [.m mb es c] → Cm9 es cmd9 → sops Tryz.prog Qp K rest σ h') :
  ∀ (ns pre : List (List UInt8 × Nat)) {h : Heap} {es : List MapEntry} {c : Nat}, pre ++ ns = cmd9 → St [] h0 h [.m mb es c] → Cm9 es pre → ((pre ++ ns).map Prod.fst).Nodup → sops Tryz.prog Qp K (ns.map mupO ++ rest) σ h
 |[], pre, h, es, c, e, w, cm, _ => by
  simp only [List.append_nil] at e
  subst e
  exact k h es c w cm
 |(n, g) :: ns, pre, h, es, c, e, w, cm, hd => by
  have ky := cm.keys
  have hnot : n ∉ pre.map Prod.fst := by
   rw [List.map_append] at hd
   have := (List.nodup_append.1 hd).2.2
   intro hm
   exact this n hm n (by simp) rfl
  show sopr Tryz.prog σ h (mupO (n, g)) (sops Tryz.prog Qp K (ns.map mupO ++ rest)) Qp
  simp only [mupO, sopr, sop, ev, hσ]
  refine Ai rfl (Ei es (Ei c (Ai (w.get 0 rfl) (Ai ky.fits ?_))))
  rw [ky.miss hnot]
  intro h' p
  have w : St [] h0 h' [.m mb _ _] := w.mput 0 rfl p
  exact mup_go hσ k ns (pre ++ [(n, g)]) (by rw [List.append_assoc]; exact e) w cm.snoc (by rw [List.append_assoc]; exact hd)
theorem cmd9_nodup : (cmd9.map Prod.fst).Nodup := by decide +kernel
theorem r1_eq : f38r1 = ⟨some 1, none, .mkm⟩ :: ((cmd9.map mupO) ++ [⟨some 2, none, .mv (.tmp 1)⟩, ⟨some 0, none, .mv (.tmp 2)⟩]) := by kernel_rfl
theorem ops_go {P : Program} {l : List SOper} {c : SCode} {Q : Post} {σ : Env} {ds : List Deferred} {h : Heap} (hs : sops P (fun ch h' => thenQ (swp P c Q) Q (.panic ch) (hide l σ) ds h') (fun σ' h' => thenQ (swp P c Q) Q .normal σ' ds h') l σ h) : swp P (.seq (.ops l) c) Q σ ds h := hs
theorem cmds9_calls {h : Heap} : CallsH Tryz.prog 38 [] h (Ret fun r h' => Chg [] h h' ∧ ∃ mb es c, r = .map (some mb) ∧ MapB h' mb es c ∧ (∀ e ∈ es, fits .str e.key = true) ∧ ∀ W, Found9 W es (look9 cmd9 W)) := by
 refine f38_calls (by simp) ?_
 refine mv_go (v := .map none) rfl ?_
 refine ops_go ?_
 rw [r1_eq]
 intro mb h1 g1
 have w := (St.start h).newm g1
 refine mup_go rfl (fun h' es c w cm => ?_) cmd9 [] rfl w trivial cmd9_nodup
 refine ⟨w.chg, mb, es, c, rfl, w.get 0 rfl, cm.keys.fits, fun W => ?_⟩
 have := Cm9.found W 0 cm
 unfold Found9
 exact this
theorem do9_D : SoundD Tryz.prog 20 46 f20 [.cn 6 4, .c1 7, .t 8] := soundD_of (fl := true) mixed Tryz.func20 rfl (by kernel_rfl) (by kernel_rfl) (by kernel_rfl)
theorem dodef9_F : SoundF Tryz.prog 40 14 f40 [] := soundF_of (fl := true) mixed Tryz.func40 rfl (by kernel_rfl) (by kernel_rfl) (by kernel_rfl)
theorem dodef9_calm {h : Heap} {b6 b7 : Nat} : DefH Tryz.prog 40 [ptr b6, ptr b7] .returning h fun e u' h' => (∃ v, e = .returned v) ∧ u' = .returning ∧ h' = h := by
 refine dodef9_F (by simp) ?_
 exact ⟨rfl, ⟨_, rfl⟩, rfl, rfl⟩
theorem BFail9_calls {h : Heap} {s : ByteArray} : CallsH Tryz.prog 41 [.string s] h (Ret fun r h' => r = repV 2 0 s ∧ Chg [] h h') := by
 refine f41_calls (by simp) ?_
 intro b h1 g1
 refine Ei _ (Ai g1.blk (Ai (by decide) (Ai rfl (Ai (repV_ones 2 0 s) ?_))))
 intro h2 p2
 have g2 := g1.put p2
 exact ⟨_, rfl, cells_blk g2.blk, rfl, g2.chg⟩
theorem dodef9_stop {h : Heap} {b6 b7 : Nat} {why : ByteArray} {r4 : List Value} {lv : Value} (B6 : Blk h b6 r4) (hr : r4.length = 4) (B7 : Blk h b7 [lv]) (hne : b6 ≠ b7) :
  DefH Tryz.prog 40 [ptr b6, ptr b7] (.panicking (stop9 why)) h fun e u' h' => (∃ v, e = .returned v) ∧ u' = .panicking [{ v := .iface 92 (.agg #[.string why]), recovered := true }] ∧
   Blk h' b6 [.int .i64 2, .int .i64 0, .string why, .slice none 0 0] ∧ Blk h' b7 [.slice none 0 0] ∧ Chg [b6, b7] h h' := by
 refine dodef9_F (by simp) ?_
 have l6 := B6.lt
 have l7 := B7.lt
 refine Ai (fun _ => ?_) (fun hne => absurd rfl hne)
 intro b3 h1 g1
 refine Ei _ (Ai g1.blk (Ai (by decide) (Ai rfl (Ai (ones1 rfl) ?_))))
 intro h2 p2
 have g2 := g1.put p2
 have B3 : Blk h2 b3 [.string why] := p2.blk
 refine Ei _ (Ai (cell_blk B3 rfl) ?_)
 refine call_ret BFail9_calls ?_
 rintro _ h3 ⟨rfl, c3⟩
 have c03 := g2.chg.nil c3
 refine Ei _ (Ai (B6.chg c03 (by simp)) (Ai (by rw [hr]; decide) (Ai rfl (Ai (repV_ones 2 0 why) ?_))))
 intro h4 p4
 have B64 : Blk h4 b6 [.int .i64 2, .int .i64 0, .string why, .slice none 0 0] := by
  have h9 : Blk h4 b6 (splice r4 0 [.int .i64 2, .int .i64 0, .string why, .slice none 0 0]) := p4.blk
  rw [four hr rfl] at h9
  exact h9
 refine Ei _ (Ai ((B7.chg c03 (by simp)).chg p4.chg (by simp; omega)) (Ai (by simp) (Ai rfl (Ai (ones1 rfl) ?_))))
 intro h5 p5
 have B75 : Blk h5 b7 [.slice none 0 0] := p5.blk
 have c5 : Chg [b6, b7] h h5 := ((c03.mono (by simp)).trans p4.chg (fun _ hx => hx) (fun x hx _ => by simp at hx; simp [hx])).trans p5.chg (fun _ hx => hx) (fun x hx _ => by simp at hx; simp [hx])
 exact ⟨rfl, ⟨_, rfl⟩, rfl, B64.chg p5.chg (by simp; omega), B75, c5⟩
theorem do9_calls {h : Heap} {kb sb mb c g : Nat} {now : Int} {av : Value} {w : ByteArray} {A : List ByteArray} {m : List KI} {res : Res} (kr : KR h kb sb mb c m)
  (hA : SL encS h av (w :: A)) (hl : (w :: A).length < 4611686018427387904) (hz : w.size < 4611686018427387904) (hno : look9 cmd9 (up w) = some g)
  (hf : ∀ h1 ab av', (∀ h', Chg [] h h' → SL encS h' av' A) → As h h1 (c0 ab kb now av') → CallsH Tryz.prog g [ptr ab] h1 (Cmd9 h h1 ab kb now av' res)) :
  CallsH Tryz.prog 20 [ptr kb, .int .i64 now, av] h (Ret (DoR h res)) := by
 obtain ⟨a, cc, rfl, hcc⟩ := hA.form
 obtain ⟨bb, oo, rfl⟩ := hA.addr (by simp)
 refine do9_D (by simp) ?_
 intro b6 h1 g1
 have w1 := (St.start h).new g1
 intro b7 h2 g2
 have w2 := w1.new g2
 have c2 : Chg [] h h2 := w2.chg
 refine Ai rfl (Ai (fun h0 => absurd h0 (by simp; omega)) (fun _ => ?_))
 refine callp (same_nil (kr.ext c2).ks) ?_
 have hA2 := hA.ext c2
 have hc0 := hA2.cells encS_len (i := 0) (x := w) (by simp)
 refine Ai (by decide) (Ai (by simp) (Ei _ (Ai (by simpa using hc0 0 _ rfl) ?_)))
 refine callq_ret cmds9_calls ?_
 rintro _ h3 ⟨c3, b, es, c', rfl, hm, hfit, hfd⟩
 refine Ai c3.ext ?_
 refine callq_ret (lword_calls hz) ?_
 rintro _ h4 ⟨rfl, c4⟩
 refine Ai c4.ext ?_
 refine Ai rfl (Ei es (Ei c' (Ai (hm.chg c4 (by simp)) (Ai hfit ?_))))
 have hfind := hfd (up w)
 rw [hno] at hfind
 obtain ⟨i, hfind⟩ := hfind
 rw [hfind]
 have w4 := (w2.ext c3).ext c4
 refine Ai (by decide) (Ai (by simp only [List.length_cons]; omega) (Ai (by omega) ?_))
 refine sl_slc (lo := 1) (hi := (w :: A).length) encS_len (hA.ext w4.chg) (by simp) (Nat.le_refl _) fun v1 hv1 => ?_
 have e1 : ((w :: A).drop 1).take ((w :: A).length - 1) = A := by simp
 rw [e1] at hv1
 obtain ⟨a1, cc1, rfl, hcc1⟩ := (hv1 h hA).form
 intro ab h5 g5
 have w5 : St [] h h5 [.b ab (cellsC zeroT nilV nilV nilV false kb now noText (.slice a1 A.length cc1) nilV), .b b7 [.slice none 0 0], .b b6 [.int .i64 0, .int .i64 0, .string ⟨#[]⟩, .slice none 0 0]] := w4.new g5
 have z4 := w4.chg.size
 have i5 := g5.id
 have w6 : St [] h h5 [c0 ab kb now (.slice a1 A.length cc1), .b b7 [.slice none 0 0], .b b6 [.int .i64 0, .int .i64 0, .string ⟨#[]⟩, .slice none 0 0]] :=
  w5.set 0 rfl (Chg.refl _) (by simp) ⟨w5.get 0 rfl, OL.nil, ⟨_, _, _, rfl, SL.nil, SL.nil, SL.nil⟩, by simp [bl3, vblk, ablk], by simp [vblk, ablk], by simp [bl3, vblk, ablk], by simp [vblk, ablk]⟩ (fun b hb => by
   simp [cE, En.fp, bl3, vblk, ablk] at hb
   exact .inl (by simp [En.fp, hb]))
 refine call_out9 (hf h5 ab _ (fun h' hc => hv1 h' (hA.ext hc)) (w6.as 0 rfl)) ?_ ?_
 ·rintro v h6 ⟨q, E, key, t, is, pv, lw, rv, lv, he, ⟨ra, rn, rc, rfl, sl, fr⟩, _, o6⟩
  subst he
  have w := w6.own 0 rfl o6
  obtain ⟨la, lc, rfl⟩ := w.cform 0 rfl
  have hi6 := g1.id
  have hi7 := g2.id
  have z1 := g1.size
  have z2 := g2.size
  have z3 := (c3.nil c4).size
  have z5 := g5.size
  have keep : ∀ {h7 h8 : Heap} {k : Nat}, k < h5.size → SL encQ h7 (.slice ra rn rc) q.l → Chg [k] h7 h8 → SL encQ h8 (.slice ra rn rc) q.l := fun hk sl hc => sl.chg hc fun b hb => by have := fr b hb; simp; omega
  have l6 : b6 < h5.size := by omega
  have l7 : b7 < h5.size := by omega
  refine w.st2 2 rfl rfl rfl rfl fun h7 w7 k7 => ?_
  have sl := keep l6 sl k7
  refine w7.ldw 2 rfl rfl ?_
  refine Ai ?_ ?_
  ·refine w7.ldc 0 rfl rfl ?_
   refine w7.st2 2 rfl rfl rfl rfl fun h8 w8 k8 => ?_
   refine w8.st2 1 rfl rfl rfl rfl fun h9 w9 k9 => ?_
   have sl := keep l7 (keep l6 sl k8) k9
   refine Ai (by simp) (dodef9_calm.mono ?_)
   rintro e u' h' ⟨⟨v, rfl⟩, rfl, rfl⟩
   exact ⟨_, rfl, cells_blk (w9.get 2 rfl), _, cell_blk (w9.get 1 rfl) rfl, w9.chg, _, _, rfl, ⟨ra, rn, rc, rfl, sl, fun _ _ => Nat.zero_le _⟩, (w9.get 0 rfl).2.1.sl, fun b hb => by
    rcases (w9.ents 0 _ rfl).2 b (List.mem_cons_of_mem _ (List.mem_append_left _ hb)) with h1 | h1
    ·cases h1
    ·exact h1⟩
  ·refine w7.st2 2 rfl rfl rfl rfl fun h8 w8 k8 => ?_
   refine w8.ldc 0 rfl rfl ?_
   refine w8.st2 1 rfl rfl rfl rfl fun h9 w9 k9 => ?_
   have sl := keep l7 (keep l6 sl k8) k9
   refine Ai (by simp) (dodef9_calm.mono ?_)
   rintro e u' h' ⟨⟨v, rfl⟩, rfl, rfl⟩
   exact ⟨_, rfl, cells_blk (w9.get 2 rfl), _, cell_blk (w9.get 1 rfl) rfl, w9.chg, _, _, rfl, ⟨ra, rn, rc, rfl, sl, fun _ _ => Nat.zero_le _⟩, (w9.get 0 rfl).2.1.sl, fun b hb => by
    rcases (w9.ents 0 _ rfl).2 b (List.mem_cons_of_mem _ (List.mem_append_left _ hb)) with h1 | h1
    ·cases h1
    ·exact h1⟩
 ·rintro why h6 ⟨he, c6⟩
  subst he
  have w := w6.gone 0 rfl c6 (fun k hk => .inl hk)
  have hi6 := g1.id
  have hi7 := g2.id
  have z1 := g1.size
  refine Ai (by simp) ((dodef9_stop (w.get 2 rfl) rfl (w.get 1 rfl) (w.ne 2 1 rfl rfl (by decide))).mono ?_)
  rintro e u' h' ⟨⟨v, rfl⟩, rfl, B6', B7', c7⟩
  exact ⟨_, rfl, cells_blk B6', _, cell_blk B7' rfl, w.chg.fresh c7 (by simp; omega), rfl⟩
def nothing8 : Value := .tuple ⟨[repV 0 0 noText, .slice none 0 0, .bool false]⟩
def allS : Space → List Eff → Option Space
 |S, [] => some S
 |S, e :: E => if (fateS S e).num = 0 then allS ((fateS S e).space S e.key) E else none
theorem all_apply : ∀ {E : List Eff} {S S' : Space}, allS S E = some S' → applyS S E = (S', E.length, 0)
 |[], S, S', h => by simp [allS] at h; subst h; rfl
 |e :: E, S, S', h => by
  simp only [allS] at h
  split at h
  ·rename_i hz
   rw [applyS_yes hz, all_apply h]; rfl
  ·cases h
theorem all_append : ∀ {E F : List Eff} {S : Space}, allS S (E ++ F) = (allS S E).bind fun S' => allS S' F
 |[], F, S => rfl
 |e :: E, F, S => by
  simp only [List.cons_append, allS]
  split
  ·exact all_append
  ·rfl
theorem all_then {E F : List Eff} {S S1 S2 : Space} (h1 : allS S E = some S1) (h2 : allS S1 F = some S2) : allS S (E ++ F) = some S2 := by rw [all_append, h1]; exact h2
theorem all_one {e : Eff} {S : Space} (h : (fateS S e).num = 0) : allS S [e] = some ((fateS S e).space S e.key) := by simp only [allS]; rw [if_pos h]
theorem find_put {S : Space} {key k : ByteArray} {t : Thing} (hu : UpS S) : findS (putS S key t) k = if k = key then some t else findS S k := by
 split
 ·rename_i e
  subst e
  exact findS_some (up_putS hu) (mem_putS.2 (.inl rfl))
 ·rename_i hne
  cases hf : findS S k with
  |none =>
   refine findS_none fun p hp e => ?_
   rcases mem_putS.1 hp with rfl | ⟨h1, _⟩
   ·exact hne e.symm
   ·have : findS S p.1 = some p.2 := findS_some hu h1
    rw [e, hf] at this; cases this
  |some u => exact findS_some (up_putS hu) (mem_putS.2 (.inr ⟨findS_mem hf, hne⟩))
theorem find_drop {S : Space} {key k : ByteArray} (hu : UpS S) : findS (dropS S key) k = if k = key then none else findS S k := by
 split
 ·rename_i e
  subst e
  exact findS_none fun p hp e => (mem_dropS.1 hp).2 e
 ·rename_i hne
  cases hf : findS S k with
  |none =>
   refine findS_none fun p hp e => ?_
   have : findS S p.1 = some p.2 := findS_some hu (mem_dropS.1 hp).1
   rw [e, hf] at this; cases this
  |some u => exact findS_some (up_dropS hu) (mem_dropS.2 ⟨findS_mem hf, hne⟩)
theorem len_drop {S : Space} {key : ByteArray} : (dropS S key).length ≤ S.length := List.length_filter_le _ _
theorem len_parts : ∀ (S : Space) (key : ByteArray), (S.filter fun p => sless p.1 key).length + (S.filter fun p => sless key p.1).length ≤ S.length
 |[], _ => Nat.le_refl _
 |p :: S, key => by
  have ih := len_parts S key
  simp only [List.filter_cons]
  split
  ·rename_i h1
   split
   ·rename_i h2
    have := sless_trans h1 h2
    rw [sless_irrefl] at this; cases this
   ·simp; omega
  ·split <;> simp <;> omega
theorem len_put {S : Space} {key : ByteArray} {t : Thing} : (putS S key t).length ≤ S.length + 1 := by
 have := len_parts S key
 unfold putS
 simp; omega
section
variable {S : Space} {k s : ByteArray} {t : Thing} {n : Int}
theorem oneF_some {e : Eff} {r : Rule} {full : Bool} (hr : ruleR e.op = some r) (h1 : ¬ ((r.name = false ∧ e.name ≠ noText) ∨ (r.text = false ∧ e.text ≠ noText) ∨ (r.number = false ∧ e.num ≠ 0)))
  (h2 : ¬ (1048576 < e.key.size ∨ 1048576 < e.name.size ∨ 1048576 < e.text.size)) (h3 : ¬ (r.kind ≠ 0 ∧ t.kind ≠ r.kind)) : oneF (some t) e full = endF (doneT t e) true full := by
 unfold oneF
 rw [hr]
 simp only
 rw [if_neg h1, if_neg h2, if_neg h3]
theorem oneF_none {e : Eff} {r : Rule} {full : Bool} (hr : ruleR e.op = some r) (h1 : ¬ ((r.name = false ∧ e.name ≠ noText) ∨ (r.text = false ∧ e.text ≠ noText) ∨ (r.number = false ∧ e.num ≠ 0)))
  (h2 : ¬ (1048576 < e.key.size ∨ 1048576 < e.name.size ∨ 1048576 < e.text.size)) (h3 : ¬ r.makes = false) : oneF none e full = endF (doneT { zeroT with kind := r.kind } e) false full := by
 unfold oneF
 rw [hr]
 simp only
 rw [if_neg h1, if_neg h2, if_neg h3]
theorem no_size : noText.size = 0 := rfl
theorem fate_gone (hf : findS S k = some t) (hk : k.size ≤ 1048576) : fateS S (goneE k) = .drop := by
  show oneF (findS S k) (goneE k) _ = _
  rw [hf, oneF_some (r := ⟨false, false, false, 0, false, 185⟩) rfl (by rintro (⟨_, h⟩ | ⟨_, h⟩ | ⟨_, h⟩) <;> exact h rfl)
    (by rintro (h | h | h)
        · exact absurd h (by show ¬ 1048576 < k.size; omega)
        · exact absurd h (by show ¬ 1048576 < noText.size; rw [no_size]; decide)
        · exact absurd h (by show ¬ 1048576 < noText.size; rw [no_size]; decide)) (fun h => h.1 rfl)]
  rfl

end
theorem getS_find {S : Space} {k : ByteArray} {now : Int} {t : Thing} (h : getS S k now = some t) : findS S k = some t := by
 unfold getS at h
 split at h
 ·rename_i u hu
  split at h
  ·cases h
  ·rw [hu]; exact h
 ·cases h
def KeyS (S : Space) : Prop := ∀ p ∈ S, p.1.size ≤ 1048576
theorem KeyS.of {S : Space} (hk : KeyS S) {k : ByteArray} {t : Thing} (h : findS S k = some t) : k.size ≤ 1048576 := hk _ (findS_mem h)
structure Few (S : Space) : Prop where
 up : UpS S
 keys : KeyS S
 len : S.length ≤ 20
 ins : InS S
end Go.Proofs.YtjnijlnmbjjgpaaGreatDoor
namespace Go.Proofs.YtjnijlnmbjjgpaaGreatDoor
open Go Go.Sx C
theorem tin8 {t : Thing} (hk : kOK t = true) (s : Small t) : TIn t := by
 have few : countT t ≤ 65536 := (small_short s).2.2.2
 unfold kOK at hk
 split at hk
 ·cases hk
 split at hk
 ·rename_i h1
  have hk := of_decide_eq_true hk
  have p : t.pairs = [] := List.length_eq_zero_iff.1 (by omega)
  have l : t.list = [] := List.length_eq_zero_iff.1 (by omega)
  have r : t.ranks = [] := List.length_eq_zero_iff.1 (by omega)
  exact ⟨⟨by rw [p]; exact .nil, fun _ => by rw [l]; exact .nil, by rw [r]; exact .nil, by rw [r]; exact List.nodup_nil, fun h => by omega, few⟩, fun h => by omega⟩
 split at hk
 ·rename_i h1
  simp only [Bool.and_eq_true, decide_eq_true_eq] at hk
  obtain ⟨h2, h3, h4, h5⟩ := hk
  have r : t.ranks = [] := List.length_eq_zero_iff.1 (by omega)
  exact ⟨⟨rising_lt (lt := fun x y : Pair => sless x.name y.name) (fun a b c => sless_trans) h5, fun h => by omega, by rw [r]; exact .nil, by rw [r]; exact List.nodup_nil, fun h => by omega, few⟩, fun h => by omega⟩
 split at hk
 ·rename_i h1
  simp only [Bool.and_eq_true, decide_eq_true_eq] at hk
  obtain ⟨h2, h3, h4⟩ := hk
  have p : t.pairs = [] := List.length_eq_zero_iff.1 (by omega)
  have r : t.ranks = [] := List.length_eq_zero_iff.1 (by omega)
  exact ⟨⟨by rw [p]; exact .nil, fun h => by omega, by rw [r]; exact .nil, by rw [r]; exact List.nodup_nil, fun _ => ⟨p, r⟩, few⟩, fun _ => List.length_pos_iff.1 h2⟩
 split at hk
 ·rename_i h1
  simp only [Bool.and_eq_true, decide_eq_true_eq] at hk
  obtain ⟨h2, h3, h4, h5⟩ := hk
  have p : t.pairs = [] := List.length_eq_zero_iff.1 (by omega)
  have r : t.ranks = [] := List.length_eq_zero_iff.1 (by omega)
  exact ⟨⟨by rw [p]; exact .nil, fun _ => rising_lt (lt := sless) (fun a b c => sless_trans) h5, by rw [r]; exact .nil, by rw [r]; exact List.nodup_nil, fun h => by omega, few⟩, fun h => by omega⟩
 split at hk
 ·rename_i h1
  simp only [Bool.and_eq_true, decide_eq_true_eq] at hk
  obtain ⟨h2, h3, h4, h5, h6⟩ := hk
  have p : t.pairs = [] := List.length_eq_zero_iff.1 (by omega)
  exact ⟨⟨by rw [p]; exact .nil, fun h => by omega, rising_lt ahead_tr h5, of_decide_eq_true h6, fun h => by omega, few⟩, fun h => by omega⟩
 ·cases hk
theorem named8 {t : Thing} (s : Small t) : Named t := ⟨fun x hx => by have := s.ps x hx; omega, fun x hx => by have := s.ls x hx; omega, fun x hx => by have := s.rs x hx; omega⟩
theorem rg8 {l k : List RX} (nv : NVast l) (hk : ofX [] l = some k) : RG k := by
 obtain ⟨h1, h2, h3⟩ := ofX_ok List.Pairwise.nil hk
 have hn := (ofX_nodup List.Pairwise.nil hk).2
 have hm : ∀ x ∈ k, x ∈ l := fun x hx => by simpa using (h2 x).1 hx
 have hl := nv.len
 have hlk : k.length = l.length := by simpa using h3
 exact ⟨h1, by omega, fun x hx => nv.fit x (hm x hx), fun x hx => tin8 (hn x (hm x hx)) (nv.small x (hm x hx)), fun x hx => named8 (nv.small x (hm x hx))⟩
theorem kind8 {t : Thing} (hk : kOK t = true) : 1 ≤ t.kind ∧ t.kind ≤ 5 := by
 unfold kOK at hk
 split at hk
 ·cases hk
 split at hk
 ·omega
 split at hk
 ·omega
 split at hk
 ·omega
 split at hk
 ·omega
 split at hk
 ·omega
 ·cases hk
structure S8 (S : Space) : Prop where
 few : Few S
 kind : KindS S
 text : TextS S
 unt : UntS S
 nm : ∀ p ∈ S, Named p.2
theorem s8_of {l k : List RX} (nv : NVast l) (hk : ofX [] l = some k) (hu : ∀ x ∈ l, In64 x.thing.unt) : S8 (k.map RX.pr) := by
 obtain ⟨h1, h2, h3⟩ := ofX_ok List.Pairwise.nil hk
 have hn := (ofX_nodup List.Pairwise.nil hk).2
 have hm : ∀ x ∈ k, x ∈ l := fun x hx => by simpa using (h2 x).1 hx
 have hl := nv.len
 have hlk : k.length = l.length := by simpa using h3
 have rg := rg8 nv hk
 have of : ∀ p ∈ k.map RX.pr, ∃ x ∈ l, RX.pr x = p := fun p hp => by
  obtain ⟨x, hx, rfl⟩ := List.mem_map.1 hp
  exact ⟨x, hm x hx, rfl⟩
 refine ⟨⟨pr_up h1, fun p hp => ?_, by simp; omega, rg.ins⟩, fun p hp => ?_, fun p hp => ?_, fun p hp => ?_, fun p hp => ?_⟩
 ·obtain ⟨x, hx, rfl⟩ := of p hp
  have := nv.keys x hx
  show x.key.size ≤ 1048576
  omega
 ·obtain ⟨x, hx, rfl⟩ := of p hp
  exact kind8 (hn x hx)
 ·obtain ⟨x, hx, rfl⟩ := of p hp
  have := (nv.small x hx).text
  show x.thing.text.size < 281474976710656
  omega
 ·obtain ⟨x, hx, rfl⟩ := of p hp
  exact hu x hx
 ·obtain ⟨x, hx, rfl⟩ := of p hp
  exact named8 (nv.small x hx)
section
variable {h0 h : Heap} {ab kb sb mb c : Nat} {now n : Int} {av lv : Value} {A : List ByteArray} {m : List KI} {S : Space}
end
end Go.Proofs.YtjnijlnmbjjgpaaGreatDoor
namespace Go.Proofs.YtjnijlnmbjjgpaaGreatDoor
open Go Go.Sx C
section
variable {h0 h h' : Heap} {ab kb sb mb c l D b2 : Nat} {now n : Int} {av lv : Value} {A : List ByteArray} {m : List KI} {S : Space} {T : List Nat} {M : List En} {r : Loop} {st st' : LoopState} {key s W N : ByteArray} {res : Res}
end
end Go.Proofs.YtjnijlnmbjjgpaaGreatDoor
namespace Go.Proofs.YtjnijlnmbjjgpaaGreatDoor
open Go Go.Sx C
def Fine (S : Space) (res : Res) : Prop := ∀ q E, res = .ok (q, E) → q.k ≠ 2 ∧ E.length ≤ 100000 ∧ ∃ S', allS S E = some S'
section
variable {S : Space} {now n : Int} {A : List ByteArray} {res : Res} {q r : Rep} {E : List Eff} {k s w : ByteArray} {go : Option Thing}
theorem Fine.bad : Fine S (.error w) := fun q E h => by cases h
theorem Fine.of (hq : r.k ≠ 2) (hE : E.length ≤ 100000) (h : ∃ S', allS S E = some S') : Fine S (.ok (r, E)) := fun q E' e => by
 cases e
 exact ⟨hq, hE, h⟩
theorem Fine.none_ (hq : r.k ≠ 2) : Fine S (.ok (r, [])) := Fine.of hq (by simp) ⟨S, rfl⟩
theorem Fine.ite {c : Prop} [Decidable c] {a b : Res} (ha : c → Fine S a) (hb : ¬ c → Fine S b) : Fine S (if c then a else b) := by
 split
 ·exact ha (by assumption)
 ·exact hb (by assumption)
theorem Fine.arg1 {f : ByteArray → Res} (h : ∀ x ∈ A, Fine S (f x)) : Fine S (arg1 f A) := by
 unfold Proofs.YtjnijlnmbjjgpaaGreatDoor.arg1
 split
 ·exact h _ (by simp)
 ·exact Fine.bad
theorem Fine.arg2 {f : ByteArray → ByteArray → Res} (h : ∀ x y, Fine S (f x y)) : Fine S (arg2 f A) := by
 unfold Proofs.YtjnijlnmbjjgpaaGreatDoor.arg2
 split
 ·exact h _ _
 ·exact Fine.bad
end
def AnyR (h : Heap) (S : Space) (r : Value) (h' : Heap) : Prop := (r = nothing8 ∧ Chg [] h h') ∨ ∃ res, Fine S res ∧ DoR h res r h'
end Go.Proofs.YtjnijlnmbjjgpaaGreatDoor
namespace Go.Proofs.YtjnijlnmbjjgpaaGreatDoor
open Go Go.Sx C
structure FitE (e : Eff) (r : Rule) : Prop where
 rule : ruleR e.op = some r
 name : r.name = false → e.name = noText
 text : r.text = false → e.text = noText
 num : r.number = false → e.num = 0
 key : e.key.size ≤ 1048576
 nsz : e.name.size ≤ 1048576
 tsz : e.text.size ≤ 1048576
section
variable {S : Space} {k n key : ByteArray} {now kd : Int} {t : Thing} {e : Eff} {r : Rule} {E : List Eff}
theorem FitE.h1 (f : FitE e r) : ¬ ((r.name = false ∧ e.name ≠ noText) ∨ (r.text = false ∧ e.text ≠ noText) ∨ (r.number = false ∧ e.num ≠ 0)) := by
 rintro (⟨h, h2⟩ | ⟨h, h2⟩ | ⟨h, h2⟩)
 ·exact h2 (f.name h)
 ·exact h2 (f.text h)
 ·exact h2 (f.num h)
theorem FitE.h2 (f : FitE e r) : ¬ (1048576 < e.key.size ∨ 1048576 < e.name.size ∨ 1048576 < e.text.size) := by
 have := f.key; have := f.nsz; have := f.tsz
 omega
theorem FitE.is (f : FitE e r) {full : Bool} (hk : r.kind ≠ 0 → t.kind = r.kind) : oneF (some t) e full = endF (doneT t e) true full :=
 oneF_some f.rule f.h1 f.h2 (fun h => h.2 (hk h.1))
theorem FitE.makes (f : FitE e r) {full : Bool} (hm : r.makes = true) : oneF none e full = endF (doneT { zeroT with kind := r.kind } e) false full :=
 oneF_none f.rule f.h1 f.h2 (by rw [hm]; decide)
structure PutE (e : Eff) (kd : Int) : Prop where
 fit : ∃ r, FitE e r ∧ r.kind = kd ∧ r.makes = true
 done : ∀ t, ∃ t', doneT t e = (t', 0) ∧ t'.kind = t.kind ∧ countT t' ≠ 0 ∧ countT t' ≤ countT t + 1
theorem fate_puts (p : PutE e kd) (hl : S.length < 65536) (hf : ∀ t, findS S e.key = some t → t.kind = kd ∧ countT t < 65536) :
  ∃ t', fateS S e = .put t' ∧ t'.kind = kd ∧ countT t' ≤ ((findS S e.key).map countT).getD 0 + 1 := by
 obtain ⟨r, f, rk, rm⟩ := p.fit
 have hfull : decide (65536 ≤ S.length) = false := decide_eq_false (by omega)
 have fin : ∀ {t' : Thing} {b : Bool}, countT t' ≠ 0 → countT t' ≤ 65536 → endF (t', 0) b false = .put t' := fun {t' b} h0 h1 => by
  unfold endF
  rw [if_neg (fun h => h rfl), if_neg (fun h => h0 h.2), if_neg]
  rintro (h | ⟨_, h⟩)
  ·have h : 65536 < countT t' := h
   omega
  ·cases h
 unfold fateS
 rw [hfull]
 cases hg : findS S e.key with
 |none =>
  obtain ⟨t', h1, h2, h3, h4⟩ := p.done { zeroT with kind := r.kind }
  have h4 : countT t' ≤ 0 + 1 := h4
  refine ⟨t', ?_, by rw [h2]; exact rk, h4⟩
  rw [f.makes rm, h1]
  exact fin h3 (by omega)
 |some t =>
  obtain ⟨h5, h6⟩ := hf t hg
  obtain ⟨t', h1, h2, h3, h4⟩ := p.done t
  refine ⟨t', ?_, by rw [h2]; exact h5, h4⟩
  rw [f.is (fun _ => by rw [h5, rk]), h1]
  exact fin h3 (by omega)
theorem all_puts : ∀ {E : List Eff} {S : Space}, UpS S → S.length + E.length < 65536 → (∀ e ∈ E, PutE e kd ∧ e.key = key) → (∀ t, findS S key = some t → t.kind = kd ∧ countT t + E.length ≤ 65536) → ∃ S', allS S E = some S'
 |[], S, _, _, _, _ => ⟨S, rfl⟩
 |e :: E, S, hu, hl, hE, hf => by
  obtain ⟨p, hke⟩ := hE e (by simp)
  have hl : S.length + (E.length + 1) < 65536 := hl
  have hf : ∀ t, findS S key = some t → t.kind = kd ∧ countT t + (E.length + 1) ≤ 65536 := hf
  obtain ⟨t', h1, h2, h3⟩ := fate_puts (S := S) p (by omega) fun t ht => ⟨(hf t (by rw [← hke]; exact ht)).1, by have := (hf t (by rw [← hke]; exact ht)).2; omega⟩
  rw [hke] at h3
  have hlen := len_put (S := S) (key := key) (t := t')
  obtain ⟨S', h4⟩ := all_puts (E := E) (S := putS S key t') (up_putS hu) (by omega) (fun e' he' => hE e' (by simp [he'])) fun t ht => by
   rw [find_put hu, if_pos rfl] at ht
   cases ht
   refine ⟨h2, ?_⟩
   cases hg : findS S key with
   |none =>
    rw [hg] at h3
    have h3 : countT t' ≤ 0 + 1 := h3
    omega
   |some t =>
    rw [hg] at h3
    have h3 : countT t' ≤ countT t + 1 := h3
    have := (hf t hg).2
    omega
  refine ⟨S', ?_⟩
  simp only [allS]
  rw [h1, hke, if_pos (show (Fate.put t').num = 0 from rfl)]
  exact h4
theorem all_takes {mkE : ByteArray → Eff} {th : Thing → ByteArray → Bool} {D : Thing → ByteArray → Thing} (hfit : ∀ n, n.size ≤ 1048576 → ∃ r, FitE (mkE n) r ∧ r.kind = kd) (hkey : ∀ n, (mkE n).key = key)
  (hd : ∀ t n, doneT t (mkE n) = (D t n, if th t n then 0 else 5)) (hk : ∀ t n, (D t n).kind = t.kind) (hth : ∀ t n m, m ≠ n → th (D t n) m = th t m) (hc : ∀ t n, th t n = true → countT t ≠ 0) (hle : ∀ t n, countT (D t n) ≤ countT t) :
  ∀ {ns : List ByteArray} {S : Space} {t : Thing}, UpS S → findS S key = some t → t.kind = kd → countT t ≤ 65536 → ns.Nodup → (∀ n ∈ ns, th t n = true ∧ n.size ≤ 1048576) → ∃ S', allS S (ns.map mkE) = some S'
 |[], S, t, _, _, _, _, _, _ => ⟨S, rfl⟩
 |n :: ns, S, t, hu, hf, hkt, hct, hnd, hall => by
  obtain ⟨hn, hnd⟩ := List.nodup_cons.1 hnd
  obtain ⟨h1, h2⟩ := hall n (by simp)
  obtain ⟨r, fit, rk⟩ := hfit n h2
  have hfate : fateS S (mkE n) = endF (D t n, 0) true (decide (65536 ≤ S.length)) := by
   unfold fateS
   rw [hkey, hf, fit.is (fun _ => by rw [hkt, rk]), hd, h1]
   rfl
  have hrest : ∀ m ∈ ns, th (D t n) m = true ∧ m.size ≤ 1048576 := fun m hm => by
   have hne : m ≠ n := fun e => hn (e ▸ hm)
   rw [hth t n m hne]
   exact hall m (by simp [hm])
  have hle' := hle t n
  have hcs : (fateS S (mkE n)).num = 0 ∧ ∃ S', allS ((fateS S (mkE n)).space S (mkE n).key) (ns.map mkE) = some S' := by
   rw [hfate, hkey]
   unfold endF
   rw [if_neg (fun h => h rfl)]
   by_cases h0 : (D t n, (0 : Int)).1.kind ≠ 1 ∧ countT (D t n, (0 : Int)).1 = 0
   ·rw [if_pos h0]
    refine ⟨rfl, ?_⟩
    have : ns = [] := by
     cases ns with
     |nil => rfl
     |cons m ns => exact absurd h0.2 (hc _ m (hrest m (by simp)).1)
    subst this
    exact ⟨_, rfl⟩
   ·rw [if_neg h0, if_neg (by
     rintro (h | ⟨h, _⟩)
     ·have h : 65536 < countT (D t n) := h
      omega
     ·cases h)]
    refine ⟨rfl, ?_⟩
    exact all_takes hfit hkey hd hk hth hc hle (up_putS hu) (t := D t n) (by show findS (putS S key (D t n)) key = _; rw [find_put hu, if_pos rfl]) (by rw [hk]; exact hkt) (by omega) hnd hrest
  obtain ⟨hz, S', hS⟩ := hcs
  refine ⟨S', ?_⟩
  simp only [List.map_cons, allS]
  rw [if_pos hz]
  exact hS
theorem all_drops9 (hu : UpS S) (hk : key.size ≤ 1048576) : ∃ S', allS S (dropsS S key now) = some S' ∧ UpS S' ∧ S'.length ≤ S.length ∧ findS S' key = getS S key now := by
 unfold dropsS
 split
 ·rename_i hc
  obtain ⟨t, ht⟩ := Option.isSome_iff_exists.1 hc.1
  have hf := fate_gone ht hk
  refine ⟨dropS S key, by rw [all_one (by rw [hf]; rfl), hf]; rfl, up_dropS hu, len_drop, ?_⟩
  rw [find_drop hu, if_pos rfl]
  cases hg : getS S key now with
  |none => rfl
  |some t => rw [hg] at hc; exact absurd hc.2 (by simp)
 ·rename_i hc
  refine ⟨S, rfl, hu, Nat.le_refl _, ?_⟩
  cases hg : getS S key now with
  |some t => exact getS_find hg
  |none =>
   cases hf : findS S key with
   |none => rfl
   |some t => exact absurd ⟨by rw [hf]; rfl, by rw [hg]; rfl⟩ hc
end
theorem newL_ok {there : ByteArray → Bool} : ∀ {l pre : List ByteArray}, (newL there pre l).Nodup ∧ (∀ n ∈ newL there pre l, there n = false ∧ n ∉ pre ∧ n ∈ l) ∧ (newL there pre l).length ≤ l.length
 |[], pre => ⟨List.nodup_nil, fun n hn => (nomatch (show n ∈ ([] : List ByteArray) from hn)), Nat.le_refl _⟩
 |x :: l, pre => by
  obtain ⟨h1, h2, h3⟩ := newL_ok (there := there) (l := l) (pre := pre ++ [x])
  have h2' : ∀ n ∈ newL there (pre ++ [x]) l, there n = false ∧ n ∉ pre ∧ n ∈ x :: l := fun n hn => by
   obtain ⟨a, b, c⟩ := h2 n hn
   exact ⟨a, fun hm => b (by simp [hm]), by simp [c]⟩
  simp only [newL]
  split
  ·rename_i hc
   refine ⟨?_, ?_, by simp; omega⟩
   ·show (x :: newL there (pre ++ [x]) l).Nodup
    exact List.nodup_cons.2 ⟨fun hm => (h2 x hm).2.1 (by simp), h1⟩
   ·intro n hn
    rcases List.mem_cons.1 (show n ∈ x :: newL there (pre ++ [x]) l from hn) with rfl | hn
    ·exact ⟨hc.1, hc.2, by simp⟩
    ·exact h2' n hn
  ·refine ⟨h1, h2', by simp; omega⟩
theorem hereL_ok {there : ByteArray → Bool} {l : List ByteArray} : (hereL there l).Nodup ∧ (∀ n ∈ hereL there l, there n = true ∧ n ∈ l) ∧ (hereL there l).length ≤ l.length := by
 obtain ⟨h1, h2, h3⟩ := newL_ok (there := fun n => !there n) (l := l) (pre := [])
 refine ⟨h1, fun n hn => ?_, h3⟩
 obtain ⟨a, _, c⟩ := h2 n hn
 exact ⟨by simpa using a, c⟩
theorem twos_mem : ∀ {m : Nat} {l : List ByteArray} {p : ByteArray × ByteArray}, l.length ≤ m → p ∈ twos l → p.1 ∈ l ∧ p.2 ∈ l
 |_, [], p, _, h => (nomatch (show p ∈ ([] : List (ByteArray × ByteArray)) from h))
 |_, [a], p, _, h => (nomatch (show p ∈ ([] : List (ByteArray × ByteArray)) from h))
 |0, a :: b :: l, p, hm, _ => by simp at hm
 |m + 1, a :: b :: l, p, hm, h => by
  rcases List.mem_cons.1 (show p ∈ (a, b) :: twos l from h) with rfl | h
  ·exact ⟨by simp, by simp⟩
  ·obtain ⟨h1, h2⟩ := twos_mem (m := m) (l := l) (by simp at hm; omega) h
   exact ⟨by simp [h1], by simp [h2]⟩
theorem twos_len : ∀ {m : Nat} {l : List ByteArray}, l.length ≤ m → (twos l).length ≤ l.length
 |_, [], _ => Nat.le_refl _
 |_, [a], _ => Nat.zero_le _
 |0, a :: b :: l, hm => by simp at hm
 |m + 1, a :: b :: l, hm => by
  have := twos_len (m := m) (l := l) (by simp at hm; omega)
  show (twos l).length + 1 ≤ _
  simp; omega
theorem scored_mem : ∀ {l : List (ByteArray × ByteArray)} {r : List (Int × ByteArray)}, scored l = some r → r.map Prod.snd = l.map Prod.snd ∧ ∀ p ∈ r, In64 p.1
 |[], r, h => by cases h; exact ⟨rfl, fun p hp => (nomatch hp)⟩
 |(s, n) :: l, r, h => by
  simp only [scored] at h
  split at h
  ·rename_i z r' hz hr
   cases h
   obtain ⟨h1, h2⟩ := scored_mem hr
   refine ⟨by simp [h1], fun p hp => ?_⟩
   rcases List.mem_cons.1 hp with rfl | hp
   ·exact numOf_in hz
   ·exact h2 p hp
  ·cases h
section
variable {key n s : ByteArray} {z : Int}
theorem puts_hash (hk : key.size ≤ 1048576) (hn : n.size ≤ 1048576) (hs : s.size ≤ 1048576) : PutE (hashE key n s) 2 :=
 ⟨⟨⟨true, true, false, 2, true, 189⟩, ⟨rfl, (fun h => by cases h), (fun h => by cases h), fun _ => rfl, hk, hn, hs⟩, rfl, rfl⟩, fun t => by
  have h1 := putF_len (eq := fun x : Pair => decide (x.name = n)) (lt := fun x => sless n x.name) (y := ⟨n, s⟩) t.pairs false
  have h2 := List.length_pos_iff.2 (putF_ne (eq := fun x : Pair => decide (x.name = n)) (lt := fun x => sless n x.name) (y := ⟨n, s⟩) t.pairs)
  refine ⟨_, rfl, rfl, ?_, ?_⟩
  ·unfold countT; show (putF (fun x : Pair => decide (x.name = n)) (fun x => sless n x.name) ⟨n, s⟩ t.pairs false).length + t.list.length + t.ranks.length ≠ 0; omega
  ·unfold countT; show (putF (fun x : Pair => decide (x.name = n)) (fun x => sless n x.name) ⟨n, s⟩ t.pairs false).length + t.list.length + t.ranks.length ≤ _; omega⟩
theorem puts_head (hk : key.size ≤ 1048576) (hs : s.size ≤ 1048576) : PutE (headE key s) 3 :=
 ⟨⟨⟨false, true, false, 3, true, 191⟩, ⟨rfl, fun _ => rfl, (fun h => by cases h), fun _ => rfl, hk, by show noText.size ≤ _; decide, hs⟩, rfl, rfl⟩, fun t => by
  refine ⟨_, rfl, rfl, ?_, ?_⟩
  ·unfold countT; show t.pairs.length + (t.list.length + 1) + t.ranks.length ≠ 0; omega
  ·unfold countT; show t.pairs.length + (t.list.length + 1) + t.ranks.length ≤ _; omega⟩
theorem puts_tail (hk : key.size ≤ 1048576) (hs : s.size ≤ 1048576) : PutE (tailE key s) 3 :=
 ⟨⟨⟨false, true, false, 3, true, 193⟩, ⟨rfl, fun _ => rfl, (fun h => by cases h), fun _ => rfl, hk, by show noText.size ≤ _; decide, hs⟩, rfl, rfl⟩, fun t => by
  have e : (t.list ++ [s]).length = t.list.length + 1 := by simp
  refine ⟨_, rfl, rfl, ?_, ?_⟩
  ·unfold countT; show t.pairs.length + (t.list ++ [s]).length + t.ranks.length ≠ 0; omega
  ·unfold countT; show t.pairs.length + (t.list ++ [s]).length + t.ranks.length ≤ _; omega⟩
theorem puts_add (hk : key.size ≤ 1048576) (hn : n.size ≤ 1048576) : PutE (addE key n) 4 :=
 ⟨⟨⟨true, false, false, 4, true, 197⟩, ⟨rfl, (fun h => by cases h), fun _ => rfl, fun _ => rfl, hk, hn, by show noText.size ≤ _; decide⟩, rfl, rfl⟩, fun t => by
  have h1 := putF_len (eq := fun x : ByteArray => decide (x = n)) (lt := fun x => sless n x) (y := n) t.list false
  have h2 := List.length_pos_iff.2 (putF_ne (eq := fun x : ByteArray => decide (x = n)) (lt := fun x => sless n x) (y := n) t.list)
  refine ⟨_, rfl, rfl, ?_, ?_⟩
  ·unfold countT; show t.pairs.length + (putF (fun x : ByteArray => decide (x = n)) (fun x => sless n x) n t.list false).length + t.ranks.length ≠ 0; omega
  ·unfold countT; show t.pairs.length + (putF (fun x : ByteArray => decide (x = n)) (fun x => sless n x) n t.list false).length + t.ranks.length ≤ _; omega⟩
theorem puts_rank (hk : key.size ≤ 1048576) (hn : n.size ≤ 1048576) : PutE (rankE key n z) 5 :=
 ⟨⟨⟨true, false, true, 5, true, 199⟩, ⟨rfl, (fun h => by cases h), fun _ => rfl, (fun h => by cases h), hk, hn, by show noText.size ≤ _; decide⟩, rfl, rfl⟩, fun t => by
  have h1 := putF_len (eq := fun x : Rank => decide (x.name = n)) (lt := fun x => aheadR ⟨n, z⟩ x) (y := ⟨n, z⟩) t.ranks false
  have h2 := List.length_pos_iff.2 (putF_ne (eq := fun x : Rank => decide (x.name = n)) (lt := fun x => aheadR ⟨n, z⟩ x) (y := ⟨n, z⟩) t.ranks)
  refine ⟨_, rfl, rfl, ?_, ?_⟩
  ·unfold countT; show t.pairs.length + t.list.length + (putF (fun x : Rank => decide (x.name = n)) (fun x => aheadR ⟨n, z⟩ x) ⟨n, z⟩ t.ranks false).length ≠ 0; omega
  ·unfold countT; show t.pairs.length + t.list.length + (putF (fun x : Rank => decide (x.name = n)) (fun x => aheadR ⟨n, z⟩ x) ⟨n, z⟩ t.ranks false).length ≤ _; omega⟩
end
end Go.Proofs.YtjnijlnmbjjgpaaGreatDoor
namespace Go.Proofs.YtjnijlnmbjjgpaaGreatDoor
open Go Go.Sx C
section
variable {S : Space} {k n key s : ByteArray} {now kd items at_ : Int} {t : Thing} {e : Eff} {r : Rep} {E : List Eff} {A : List ByteArray} {ok : Bool} {f : Thing → Res}
theorem anyH (l : List Pair) (n : ByteArray) : thereH l n = l.any fun x => decide (x.name = n) := by
 unfold thereH fieldF
 rw [Option.isSome_map, Bool.eq_iff_iff, List.find?_isSome]
 simp
theorem anyR (l : List Rank) (n : ByteArray) : thereR l n = l.any fun x => decide (x.name = n) := by
 unfold thereR scoreF
 rw [Option.isSome_map, Bool.eq_iff_iff, List.find?_isSome]
 simp
theorem anyL (l : List ByteArray) (n : ByteArray) : thereL l n = l.any fun x => decide (x = n) := by
 unfold thereL
 rw [Bool.eq_iff_iff]
 simp
def Got (S : Space) (now : Int) (kd : Int) (key : ByteArray) (t : Thing) : Prop := (getS S key now = none ∧ t = zeroT) ∨ (getS S key now = some t ∧ t.kind = kd)
theorem Got.count (s : S9 S) (g : Got S now kd key t) : countT t ≤ 6000 := by
 rcases g with ⟨_, rfl⟩ | ⟨h, _⟩
 ·exact Nat.zero_le _
 ·have h9 : T9 t := s _ (getS_mem h)
  have := h9.ps; have := h9.ls; have := h9.rs
  unfold countT
  omega
theorem Fine.kindly (h : ∀ t, Got S now kd key t → Fine S (f t)) : Fine S (kindly S now kd key f) := by
 unfold Proofs.YtjnijlnmbjjgpaaGreatDoor.kindly
 split
 ·rename_i hg
  exact h zeroT (.inl ⟨hg, rfl⟩)
 ·rename_i t hg
  exact Fine.ite (fun hk => h t (.inr ⟨hg, hk⟩)) fun _ => Fine.bad
theorem Fine.arg3 {f : ByteArray → ByteArray → ByteArray → Res} (h : ∀ x y z, Fine S (f x y z)) : Fine S (arg3 f A) := by
 unfold Proofs.YtjnijlnmbjjgpaaGreatDoor.arg3
 split
 ·exact h _ _ _
 ·exact Fine.bad
theorem Fine.numbered {f : Int → Res} (h : ∀ n, Fine S (f n)) : Fine S (numbered s f) := by
 unfold Proofs.YtjnijlnmbjjgpaaGreatDoor.numbered
 split
 ·exact h _
 ·exact Fine.bad
theorem Fine.addTo {a b : Int} {f : Int → Res} (h : ∀ n, Fine S (f n)) : Fine S (addTo a b f) := Fine.ite (fun _ => h _) fun _ => Fine.bad
theorem fine_makes (f : Few S) (s : S9 S) (g : Got S now kd key t) (hq : r.k ≠ 2) (hE : key.size ≤ 1048576 → ok = true → ∀ e ∈ E, PutE e kd ∧ e.key = key) (hlen : E.length ≤ 100) : Fine S (makes S now key items ok r E) :=
 Fine.ite (fun hc => by
  have hl := f.len
  have hd := drops_len S key now
  obtain ⟨S1, h1, u1, l1, f1⟩ := all_drops9 (now := now) f.up hc.2.1
  obtain ⟨S2, h2⟩ := all_puts (kd := kd) (key := key) (E := E) u1 (by omega) (hE hc.2.1 hc.2.2) fun u hu => by
   rw [f1] at hu
   rcases g with ⟨hg, _⟩ | ⟨hg, hk⟩
   ·rw [hg] at hu; cases hu
   ·rw [hg] at hu
    cases hu
    have := Got.count s (.inr ⟨hg, hk⟩)
    exact ⟨hk, by omega⟩
  exact Fine.of hq (by rw [List.length_append]; omega) ⟨S2, all_then h1 h2⟩) fun _ => Fine.bad
theorem fate_stay {rl : Rule} {t' : Thing} (hf : findS S e.key = some t) (fit : FitE e rl) (hk : rl.kind ≠ 0 → t.kind = rl.kind) (hd : doneT t e = (t', 0)) (hc : countT t' ≤ 65536) : (fateS S e).num = 0 := by
 unfold fateS
 rw [hf, fit.is hk, hd]
 unfold endF
 rw [if_neg (fun h => h rfl)]
 by_cases h0 : (t', (0 : Int)).1.kind ≠ 1 ∧ countT (t', (0 : Int)).1 = 0
 ·rw [if_pos h0]; rfl
 ·rw [if_neg h0, if_neg]
  ·rfl
  ·rintro (h | ⟨h, _⟩)
   ·have h : 65536 < countT t' := h
    omega
   ·cases h
theorem small_of {l : List ByteArray} {x : ByteArray} (h : l.all small = true) (hx : x ∈ l) : x.size ≤ 1048576 := of_decide_eq_true (List.all_eq_true.1 h x hx)
theorem fine_hset (f : Few S) (s : S9 S) : ∀ {A : List ByteArray}, A.length ≤ 20 → Fine S (cHset S now A)
 |[], _ => Fine.bad
 |key :: l, hA => by
  have hl : l.length + 1 ≤ 20 := hA
  refine Fine.ite (fun hc => Fine.kindly fun t g => ?_) fun _ => Fine.bad
  refine fine_makes f s g (by show (3 : Int) ≠ 2; decide) (fun hk hok e he => ?_) ?_
  ·obtain ⟨p, hp, rfl⟩ := List.mem_map.1 he
   obtain ⟨h1, h2⟩ := twos_mem (Nat.le_refl _) hp
   exact ⟨puts_hash hk (small_of hok h1) (small_of hok h2), rfl⟩
  ·have := twos_len (Nat.le_refl l.length)
   rw [List.length_map]; omega
theorem fine_hget : Fine S (cHget S now A) := Fine.arg2 fun x y => Fine.kindly fun t g => by
 split
 ·exact Fine.none_ (by show (4 : Int) ≠ 2; decide)
 ·exact Fine.none_ (by decide)
theorem fine_hlen : Fine S (cHlen S now A) := Fine.arg1 fun x _ => Fine.kindly fun t g => Fine.none_ (by show (3 : Int) ≠ 2; decide)
theorem fine_hall : Fine S (cHall S now A) := Fine.arg1 fun x _ => Fine.kindly fun t g => Fine.none_ (by show (5 : Int) ≠ 2; decide)
theorem fine_away {there : Thing → ByteArray → Bool} {mk : ByteArray → ByteArray → Eff} {D : Thing → ByteArray → Thing} (f : Few S) (s : S9 S) (h0 : ∀ n, there zeroT n = false) (hfit : ∀ key n, key.size ≤ 1048576 → n.size ≤ 1048576 → ∃ r, FitE (mk key n) r ∧ r.kind = kd) (hkey : ∀ key n, (mk key n).key = key)
  (hd : ∀ t key n, doneT t (mk key n) = (D t n, if there t n then 0 else 5)) (hk : ∀ t n, (D t n).kind = t.kind) (hth : ∀ t n m, m ≠ n → there (D t n) m = there t m) (hc : ∀ t n, there t n = true → countT t ≠ 0) (hle : ∀ t n, countT (D t n) ≤ countT t) :
  ∀ {A : List ByteArray}, A.length ≤ 20 → (∀ a ∈ A, a.size ≤ 300) → Fine S (cAway S now kd there mk A)
 |[], _, _ => Fine.bad
 |key :: l, hA, hz => by
  have hl : l.length + 1 ≤ 20 := hA
  refine Fine.ite (fun _ => Fine.kindly fun t g => ?_) fun _ => Fine.bad
  obtain ⟨h1, h2, h3⟩ := hereL_ok (there := there t) (l := l)
  refine Fine.of (by show (3 : Int) ≠ 2; decide) (by rw [List.length_map]; omega) ?_
  have hcn := g.count s
  rcases g with ⟨_, rfl⟩ | ⟨hg, hkd⟩
  ·have : hereL (there zeroT) l = [] := List.eq_nil_iff_forall_not_mem.2 fun n hn => by
    have := (h2 n hn).1
    rw [h0] at this
    cases this
   rw [this]
   exact ⟨S, rfl⟩
  ·have hfk := getS_find hg
   exact all_takes (th := there) (D := D) (key := key) (fun n hn => hfit key n (f.keys.of hfk) hn) (hkey key) (fun t n => hd t key n) hk hth hc hle f.up hfk hkd (by omega) h1 fun n hn => ⟨(h2 n hn).1, by have := hz n (by simp [(h2 n hn).2]); omega⟩
theorem del_any {α : Type} {nm : α → ByteArray} {l : List α} {n m : ByteArray} (h : m ≠ n) : (delF (fun x => decide (nm x = n)) l).any (fun x => decide (nm x = m)) = l.any fun x => decide (nm x = m) := by
 unfold delF
 rw [Bool.eq_iff_iff, List.any_eq_true, List.any_eq_true]
 constructor
 ·rintro ⟨x, hx, e⟩
  exact ⟨x, (List.mem_filter.1 hx).1, e⟩
 ·rintro ⟨x, hx, e⟩
  refine ⟨x, List.mem_filter.2 ⟨hx, ?_⟩, e⟩
  have e : nm x = m := of_decide_eq_true e
  simp [e, h]
theorem any_pos {α : Type} {p : α → Bool} {l : List α} (h : l.any p = true) : 0 < l.length := by
 cases l with
 |nil => cases h
 |cons x l => simp
theorem fine_hdel (f : Few S) (s : S9 S) (hA : A.length ≤ 20) (hz : ∀ a ∈ A, a.size ≤ 300) : Fine S (cHdel S now A) :=
 fine_away (D := fun t n => { t with pairs := delF (fun x => decide (x.name = n)) t.pairs }) f s (fun n => rfl)
  (fun key n hk hn => ⟨⟨true, false, false, 2, false, 190⟩, ⟨rfl, (fun h => by cases h), fun _ => rfl, fun _ => rfl, hk, hn, by show noText.size ≤ _; decide⟩, rfl⟩) (fun _ _ => rfl)
  (fun t key n => by rw [anyH]; rfl) (fun _ _ => rfl) (fun t n m h => by rw [anyH, anyH]; exact del_any h) (fun t n h => by rw [anyH] at h; have := any_pos h; unfold countT; omega)
  (fun t n => by have : (delF (fun x : Pair => decide (x.name = n)) t.pairs).length ≤ _ := List.length_filter_le _ _; unfold countT; show (delF (fun x : Pair => decide (x.name = n)) t.pairs).length + t.list.length + t.ranks.length ≤ t.pairs.length + t.list.length + t.ranks.length; omega) hA hz
theorem fine_srem (f : Few S) (s : S9 S) (hA : A.length ≤ 20) (hz : ∀ a ∈ A, a.size ≤ 300) : Fine S (cSrem S now A) :=
 fine_away (D := fun t n => { t with list := delF (fun x => decide (x = n)) t.list }) f s (fun n => by rw [anyL]; rfl)
  (fun key n hk hn => ⟨⟨true, false, false, 4, false, 198⟩, ⟨rfl, (fun h => by cases h), fun _ => rfl, fun _ => rfl, hk, hn, by show noText.size ≤ _; decide⟩, rfl⟩) (fun _ _ => rfl)
  (fun t key n => by rw [anyL]; rfl) (fun _ _ => rfl) (fun t n m h => by rw [anyL, anyL]; exact del_any (nm := fun x => x) h) (fun t n h => by rw [anyL] at h; have := any_pos h; unfold countT; omega)
  (fun t n => by have : (delF (fun x : ByteArray => decide (x = n)) t.list).length ≤ _ := List.length_filter_le _ _; unfold countT; show t.pairs.length + (delF (fun x : ByteArray => decide (x = n)) t.list).length + t.ranks.length ≤ t.pairs.length + t.list.length + t.ranks.length; omega) hA hz
theorem fine_zrem (f : Few S) (s : S9 S) (hA : A.length ≤ 20) (hz : ∀ a ∈ A, a.size ≤ 300) : Fine S (cZrem S now A) :=
 fine_away (D := fun t n => { t with ranks := delF (fun x => decide (x.name = n)) t.ranks }) f s (fun n => rfl)
  (fun key n hk hn => ⟨⟨true, false, false, 5, false, 200⟩, ⟨rfl, (fun h => by cases h), fun _ => rfl, fun _ => rfl, hk, hn, by show noText.size ≤ _; decide⟩, rfl⟩) (fun _ _ => rfl)
  (fun t key n => by rw [anyR]; rfl) (fun _ _ => rfl) (fun t n m h => by rw [anyR, anyR]; exact del_any h) (fun t n h => by rw [anyR] at h; have := any_pos h; unfold countT; omega)
  (fun t n => by have : (delF (fun x : Rank => decide (x.name = n)) t.ranks).length ≤ _ := List.length_filter_le _ _; unfold countT; show t.pairs.length + t.list.length + (delF (fun x : Rank => decide (x.name = n)) t.ranks).length ≤ t.pairs.length + t.list.length + t.ranks.length; omega) hA hz
theorem fine_hincr (f : Few S) (s : S9 S) : Fine S (cHincr S now A) := Fine.arg3 fun key n x => Fine.numbered fun by_ => Fine.kindly fun t g => Fine.numbered fun m => Fine.addTo fun z =>
 fine_makes f s g (by show (3 : Int) ≠ 2; decide) (fun hk hok e he => by
  rw [List.mem_singleton.1 he]
  rw [Bool.and_eq_true] at hok
  exact ⟨puts_hash hk (of_decide_eq_true hok.1) (of_decide_eq_true hok.2), rfl⟩) (by simp)
theorem fine_push {mk : ByteArray → ByteArray → Eff} (f : Few S) (s : S9 S) (hp : ∀ key n, key.size ≤ 1048576 → n.size ≤ 1048576 → PutE (mk key n) 3 ∧ (mk key n).key = key) : ∀ {A : List ByteArray}, A.length ≤ 20 → Fine S (cPush S now mk A)
 |[], _ => Fine.bad
 |key :: l, hA => by
  have hl : l.length + 1 ≤ 20 := hA
  refine Fine.ite (fun hc => Fine.kindly fun t g => ?_) fun _ => Fine.bad
  refine fine_makes f s g (by show (3 : Int) ≠ 2; decide) (fun hk hok e he => ?_) (by rw [List.length_map]; omega)
  obtain ⟨p, hm, rfl⟩ := List.mem_map.1 he
  exact hp key p hk (small_of hok hm)
theorem fine_lpush (f : Few S) (s : S9 S) (hA : A.length ≤ 20) : Fine S (cPush S now headE A) := fine_push f s (fun _ _ hk hn => ⟨puts_head hk hn, rfl⟩) hA
theorem fine_rpush (f : Few S) (s : S9 S) (hA : A.length ≤ 20) : Fine S (cPush S now tailE A) := fine_push f s (fun _ _ hk hn => ⟨puts_tail hk hn, rfl⟩) hA
theorem got_some {i : Nat} {a : Int} (g : Got S now kd key t) (h : placeN t.list.length a = some i) : getS S key now = some t ∧ t.kind = kd := by
 rcases g with ⟨_, rfl⟩ | h
 ·have h : placeN 0 a = some i := h
  have := placeN_lt h
  omega
 ·exact h
theorem fine_pop {mk : ByteArray → Eff} {D : Thing → Thing} {rl : Rule} (f : Few S) (s : S9 S) (hrk : rl.kind = 3) (hkey : ∀ key, (mk key).key = key) (hfit : ∀ key, key.size ≤ 1048576 → FitE (mk key) rl) (hd : ∀ t key, doneT t (mk key) = (D t, 0)) (hle : ∀ t, countT (D t) ≤ countT t) : Fine S (cPop S now mk at_ A) :=
 Fine.arg1 fun key _ => Fine.kindly fun t g => by
  split
  ·rename_i i hi
   have hc := g.count s
   obtain ⟨hg, hk⟩ := got_some g hi
   have hfk := getS_find hg
   have hz : (fateS S (mk key)).num = 0 := fate_stay (t := t) (by rw [hkey]; exact hfk) (hfit key (f.keys.of hfk)) (fun _ => by rw [hk, hrk]) (hd t key) (by have := hle t; omega)
   exact Fine.of (by show (4 : Int) ≠ 2; decide) (by simp) ⟨_, all_one hz⟩
  ·exact Fine.none_ (by decide)
theorem fine_lpop (f : Few S) (s : S9 S) : Fine S (cPop S now unheadE at_ A) :=
 fine_pop (D := fun t => { t with list := t.list.tail }) (rl := ⟨false, false, false, 3, false, 194⟩) f s rfl (fun _ => rfl) (fun key hk => ⟨rfl, fun _ => rfl, fun _ => rfl, fun _ => rfl, hk, by show noText.size ≤ _; decide, by show noText.size ≤ _; decide⟩) (fun _ _ => rfl)
  (fun t => by unfold countT; show t.pairs.length + t.list.tail.length + t.ranks.length ≤ t.pairs.length + t.list.length + t.ranks.length; rw [List.length_tail]; omega)
theorem fine_rpop (f : Few S) (s : S9 S) : Fine S (cPop S now untailE at_ A) :=
 fine_pop (D := fun t => { t with list := t.list.dropLast }) (rl := ⟨false, false, false, 3, false, 195⟩) f s rfl (fun _ => rfl) (fun key hk => ⟨rfl, fun _ => rfl, fun _ => rfl, fun _ => rfl, hk, by show noText.size ≤ _; decide, by show noText.size ≤ _; decide⟩) (fun _ _ => rfl)
  (fun t => by unfold countT; show t.pairs.length + t.list.dropLast.length + t.ranks.length ≤ t.pairs.length + t.list.length + t.ranks.length; rw [List.length_dropLast]; omega)
theorem fine_llen : Fine S (cLlen S now A) := Fine.arg1 fun x _ => Fine.kindly fun t g => Fine.none_ (by show (3 : Int) ≠ 2; decide)
theorem fine_lindex : Fine S (cLindex S now A) := Fine.arg2 fun x y => Fine.numbered fun n => Fine.kindly fun t g => by
 split
 ·exact Fine.none_ (by show (4 : Int) ≠ 2; decide)
 ·exact Fine.none_ (by decide)
theorem fine_lrange : Fine S (cLrange S now A) := Fine.arg3 fun x y z => Fine.numbered fun n => Fine.numbered fun n => Fine.kindly fun t g => Fine.none_ (by show (5 : Int) ≠ 2; decide)
theorem fine_lset (f : Few S) (s : S9 S) : Fine S (cLset S now A) := Fine.arg3 fun key x u => Fine.numbered fun n => Fine.kindly fun t g => by
 split
 ·rename_i i hi
  have hc := g.count s
  obtain ⟨hg, hk⟩ := got_some g hi
  have hil := placeN_lt hi
  refine Fine.ite (fun hc9 => ?_) fun _ => Fine.bad
  have hd := drops_len S key now
  obtain ⟨S1, h1, u1, l1, f1⟩ := all_drops9 (now := now) f.up hc9.2.1
  rw [hg] at f1
  have hz : (fateS S1 (atE key i u)).num = 0 := fate_stay (t := t) (rl := ⟨false, true, true, 3, false, 196⟩) f1
   ⟨rfl, fun _ => rfl, (fun h => by cases h), (fun h => by cases h), hc9.2.1, by show noText.size ≤ _; decide, of_decide_eq_true hc9.2.2⟩ (fun _ => hk)
   (show (if (0 : Int) ≤ i ∧ (i : Int) < t.list.length then ({ t with list := t.list.set (i : Int).toNat u }, (0 : Int)) else (t, 4)) = _ from if_pos ⟨by omega, by omega⟩) (by unfold countT at hc ⊢; show t.pairs.length + (t.list.set (i : Int).toNat u).length + t.ranks.length ≤ _; rw [List.length_set]; omega)
  exact Fine.of (by decide) (by rw [List.length_append]; simp; omega) ⟨_, all_then h1 (all_one hz)⟩
 ·exact Fine.bad
theorem fine_sadd (f : Few S) (s : S9 S) : ∀ {A : List ByteArray}, A.length ≤ 20 → Fine S (cSadd S now A)
 |[], _ => Fine.bad
 |key :: l, hA => by
  have hl : l.length + 1 ≤ 20 := hA
  refine Fine.ite (fun hc => Fine.kindly fun t g => ?_) fun _ => Fine.bad
  obtain ⟨h1, h2, h3⟩ := newL_ok (there := thereL t.list) (l := l) (pre := [])
  show Fine S (if newL (thereL t.list) [] l = [] then _ else _)
  refine Fine.ite (fun _ => Fine.none_ (by show (3 : Int) ≠ 2; decide)) fun _ => ?_
  refine fine_makes f s g (by show (3 : Int) ≠ 2; decide) (fun hk hok e he => ?_) (by rw [List.length_map]; omega)
  obtain ⟨p, hm, rfl⟩ := List.mem_map.1 he
  exact ⟨puts_add hk (small_of hok hm), rfl⟩
theorem fine_sis : Fine S (cSis S now A) := Fine.arg2 fun x y => Fine.kindly fun t g => Fine.none_ (by show (3 : Int) ≠ 2; decide)
theorem fine_scard : Fine S (cScard S now A) := Fine.arg1 fun x _ => Fine.kindly fun t g => Fine.none_ (by show (3 : Int) ≠ 2; decide)
theorem fine_smem : Fine S (cSmem S now A) := Fine.arg1 fun x _ => Fine.kindly fun t g => Fine.none_ (by show (5 : Int) ≠ 2; decide)
theorem fine_inter : ∀ {ks acc : List ByteArray}, Fine S (interL S now acc ks fun l => .ok (listR l, []))
 |[], acc => Fine.none_ (by show (5 : Int) ≠ 2; decide)
 |k :: ks, acc => Fine.kindly fun t g => fine_inter
theorem fine_sinter : ∀ {A : List ByteArray}, Fine S (cSinter S now A)
 |[] => Fine.bad
 |key :: ks => Fine.ite (fun _ => Fine.kindly fun t g => fine_inter) fun _ => Fine.bad
theorem fine_zadd (f : Few S) (s : S9 S) : ∀ {A : List ByteArray}, A.length ≤ 20 → Fine S (cZadd S now A)
 |[], _ => Fine.bad
 |key :: l, hA => by
  have hl : l.length + 1 ≤ 20 := hA
  refine Fine.ite (fun hc => ?_) fun _ => Fine.bad
  cases hs : scored (twos l) with
  |none => exact Fine.bad
  |some rr =>
   obtain ⟨m1, m2⟩ := scored_mem hs
   refine Fine.kindly fun t g => ?_
   refine fine_makes f s g (by show (3 : Int) ≠ 2; decide) (fun hk hok e he => ?_) ?_
   ·obtain ⟨p, hp, rfl⟩ := List.mem_map.1 he
    exact ⟨puts_rank hk (small_of hok (List.mem_map_of_mem hp)), rfl⟩
   ·have h1 : rr.length = (twos l).length := by
     have := congrArg List.length m1
     simpa using this
    have := twos_len (Nat.le_refl l.length)
    rw [List.length_map]; omega
theorem fine_zscore : Fine S (cZscore S now A) := Fine.arg2 fun x y => Fine.kindly fun t g => by
 split
 ·exact Fine.none_ (by show (4 : Int) ≠ 2; decide)
 ·exact Fine.none_ (by decide)
theorem fine_zincr (f : Few S) (s : S9 S) : Fine S (cZincr S now A) := Fine.arg3 fun key x n => Fine.numbered fun by_ => Fine.kindly fun t g => Fine.addTo fun z =>
 fine_makes f s g (by show (4 : Int) ≠ 2; decide) (fun hk hok e he => by
  rw [List.mem_singleton.1 he]
  exact ⟨puts_rank hk (of_decide_eq_true hok), rfl⟩) (by simp)
theorem fine_zcard : Fine S (cZcard S now A) := Fine.arg1 fun x _ => Fine.kindly fun t g => Fine.none_ (by show (3 : Int) ≠ 2; decide)
theorem fine_zrank : Fine S (cZrank S now A) := Fine.arg2 fun x y => Fine.kindly fun t g => by
 split
 ·exact Fine.none_ (by show (3 : Int) ≠ 2; decide)
 ·exact Fine.none_ (by decide)
theorem fine_zrange : Fine S (cZrange S now A) := Fine.arg3 fun x y z => Fine.numbered fun n => Fine.numbered fun n => Fine.kindly fun t g => Fine.none_ (by show (5 : Int) ≠ 2; decide)
theorem fine_zby : Fine S (cZby S now A) := Fine.arg3 fun x y z => Fine.numbered fun n => Fine.numbered fun n => Fine.kindly fun t g => Fine.none_ (by show (5 : Int) ≠ 2; decide)
end
end Go.Proofs.YtjnijlnmbjjgpaaGreatDoor
set_option maxRecDepth 100000
namespace Go.Proofs.YtjnijlnmbjjgpaaGreatDoor.C
open Go Go.Sx Go.Sx.S
def f179r0 : LS := [o 4 (.mv (.const (.pointer none))),o 5 (.mv (i 0))]
def f179r1 : LS := [o 14 (.mv (t 0)),o 15 (.len (t 14)),o 16 (.cmp .gtr (t 15) (i 65536))]
def f179r2 : LS := [o 4 (.mv (.const (.pointer none))),o 5 (.mv (i 3))]
def f179r3 : LS := [o 17 (.mv (t 0)),o 18 (.len (t 17)),o 19 (.mv (i 0))]
def f179r4 : LS := [o 20 (.cmp .lss (t 19) (t 18))]
def f179r5 : LS := [o 21 (.ixs 2 (t 17) (t 19)),o 22 (.ldn 2 (t 21)),o 7 (.new [(.string ⟨#[]⟩), (.int .i64 0)]),
 q (.st 2 (t 7) (t 22))]
def f179r6 : LS := [o 23 (.fa 0 (t 7)),o 24 (.ld1 (t 23)),o 25 (.lens (t 24)),o 26 (.cmp .gtr (t 25) (i 1048576))]
def f179r7 : LS := [o 4 (.mv (.const (.pointer none))),o 5 (.mv (i 3))]
def f179r8 : LS := [o 27 (.ar .add (t 19) (i 1)),o 19 (.mv (t 27))]
def f179l9 : SCode := (.seq (.ops f179r4) (.seq (.cond (t 20) .skip (.exit 0)) (.seq (.block 1 (.seq (.ops f179r5) (.seq (.ops f179r6) (.cond (t 26) (.seq (.ops f179r7) .ret) .skip)))) (.ops f179r8))))
def f179r10 : LS := [o 28 (.call 238 []),o 8 (.mv (t 28))]
def f179r11 : LS := [o 29 (.mv (t 0)),o 30 (.len (t 29)),o 31 (.mv (i 0))]
def f179r12 : LS := [o 32 (.cmp .lss (t 31) (t 30))]
def f179r13 : LS := [o 33 (.mv (t 31)),o 34 (.ixs 2 (t 29) (t 31)),o 35 (.ldn 2 (t 34)),o 10 (.new [(.string ⟨#[]⟩), (.int .i64 0)]),o 9 (.mv (t 33)),
 q (.st 2 (t 10) (t 35))]
def f179r14 : LS := [o 37 (.mv (t 8)),o 38 (.nilck (t 37)),o 39 (.fa 1 (t 38)),o 40 (.ld1 (t 39)),o 41 (.fa 0 (t 10)),o 42 (.ld1 (t 41)),o 43 (.look .str (.pointer none) true (t 40) (t 42)),o 36 (.mv (t 43)),o 44 (.ext (t 36) 0),o 45 (.ext (t 36) 1),o 11 (.mv (t 44)),o 12 (.mv (t 45))]
def f179r15 : LS := [o 46 (.mv (t 12))]
def f179r16 : LS := [o 4 (.mv (.const (.pointer none))),o 5 (.mv (i 2))]
def f179r17 : LS := [o 13 (.mv (i 0))]
def f179r18 : LS := [o 47 (.mv (t 9)),o 48 (.mv (t 1)),o 49 (.len (t 48)),o 50 (.cmp .lss (t 47) (t 49))]
def f179r19 : LS := [o 51 (.mv (t 1)),o 52 (.mv (t 9)),o 53 (.ixs 1 (t 51) (t 52)),o 54 (.ld1 (t 53)),o 13 (.mv (t 54))]
def f179r20 : LS := [o 55 (.mv (t 8)),o 56 (.ldn 2 (t 10)),o 57 (.mv (t 13)),o 58 (.call 239 [(t 55), (t 56), (t 57)])]
def f179r21 : LS := [o 59 (.ar .add (t 31) (i 1)),o 31 (.mv (t 59))]
def f179l22 : SCode := (.seq (.ops f179r12) (.seq (.cond (t 32) .skip (.exit 2)) (.seq (.block 3 (.seq (.ops f179r13) (.seq (.seq (.ops f179r14) (.seq (.ops f179r15) (.cond (t 46) (.seq (.ops f179r16) .ret) .skip))) (.seq (.ops f179r17) (.seq (.seq (.ops f179r18) (.cond (t 50) (.ops f179r19) .skip)) (.ops f179r20)))))) (.ops f179r21))))
def f179r23 : LS := [o 60 (.mv (t 8)),o 4 (.mv (t 60)),o 5 (.mv (i 0))]
def f179 : SCode := (.seq (.ops f179r0) (.seq (.seq (.ops f179r1) (.cond (t 16) (.seq (.ops f179r2) .ret) .skip)) (.seq (.seq (.ops f179r3) (.block 0 (.loop f179l9))) (.seq (.ops f179r10) (.seq (.seq (.ops f179r11) (.block 2 (.loop f179l22))) (.seq (.ops f179r23) .ret))))))
theorem f179_calls : Sound Tryz.prog 179 61 f179 [.t 4, .t 5] := sound_of mixed Tryz.func179 rfl (by kernel_rfl) (by kernel_rfl) (by kernel_rfl)
def f180r0 : LS := [o 4 (.mv (i 0)),o 5 (.mv (b false))]
def f180r1 : LS := [o 8 (.mv (t 0)),o 9 (.call 240 [(t 8)])]
def f180r2 : LS := [o 4 (.mv (i 0)),o 5 (.mv (b false))]
def f180r3 : LS := [o 11 (.mv (t 0)),o 12 (.nilck (t 11)),o 13 (.fa 1 (t 12)),o 14 (.ld1 (t 13)),o 15 (.mv (t 1)),o 16 (.look .str (.pointer none) true (t 14) (t 15)),o 10 (.mv (t 16)),o 17 (.ext (t 10) 0),o 18 (.ext (t 10) 1),o 6 (.mv (t 17)),o 7 (.mv (t 18))]
def f180r4 : LS := [o 19 (.mv (t 7)),o 20 (.un .not (t 19))]
def f180r5 : LS := [o 4 (.mv (i 0)),o 5 (.mv (b false))]
def f180r6 : LS := [o 21 (.mv (t 0)),o 22 (.mv (t 6)),o 23 (.nilck (t 22)),o 24 (.fa 0 (t 23)),o 25 (.ldn 2 (t 24)),o 26 (.call 242 [(t 25)]),o 27 (.call 241 [(t 21), (t 26)]),o 28 (.nilck (t 27)),o 29 (.fa 16 (t 28)),o 30 (.ixa 16 1 (t 29) (i 0)),o 31 (.ld1 (t 30)),o 4 (.mv (t 31)),o 5 (.mv (b true))]
def f180 : SCode := (.seq (.ops f180r0) (.seq (.seq (.ops f180r1) (.cond (t 9) (.seq (.ops f180r2) .ret) .skip)) (.seq (.ops f180r3) (.seq (.seq (.ops f180r4) (.cond (t 20) (.seq (.ops f180r5) .ret) .skip)) (.seq (.ops f180r6) .ret)))))
theorem f180_calls : Sound Tryz.prog 180 32 f180 [.t 4, .t 5] := sound_of mixed Tryz.func180 rfl (by kernel_rfl) (by kernel_rfl) (by kernel_rfl)
def f182r0 : LS := [o 4 (.box (t 1)),o 5 (.box (t 2)),o 6 (.mv (.const (.slice none 0 0)))]
def f182r1 : LS := [o 7 (.mv (t 0)),o 8 (.fn 244 [] [(t 4)]),o 9 (.fn 245 [] [(t 5)]),o 10 (.call 243 [(t 7), (t 8), (t 9)]),o 6 (.mv (t 10))]
def f182 : SCode := (.seq (.ops f182r0) (.seq (.ops f182r1) .ret))
theorem f182_calls : Sound Tryz.prog 182 11 f182 [.t 6] := sound_of mixed Tryz.func182 rfl (by kernel_rfl) (by kernel_rfl) (by kernel_rfl)
def f184r0 : LS := [o 4 (.box (t 1)),o 5 (.box (t 2)),o 6 (.mv (.const (.slice none 0 0)))]
def f184r1 : LS := [o 7 (.mv (t 0)),o 8 (.fn 246 [] [(t 4)]),o 9 (.fn 247 [] [(t 5)]),o 10 (.call 243 [(t 7), (t 8), (t 9)]),o 6 (.mv (t 10))]
def f184 : SCode := (.seq (.ops f184r0) (.seq (.ops f184r1) .ret))
theorem f184_calls : Sound Tryz.prog 184 11 f184 [.t 6] := sound_of mixed Tryz.func184 rfl (by kernel_rfl) (by kernel_rfl) (by kernel_rfl)
def f225r0 : LS := [o 2 (.mv (i 0))]
def f225r1 : LS := [o 3 (.mv (t 0)),o 4 (.cvt .u32 (t 3)),o 5 (.call 273 [(t 4)]),o 2 (.mv (t 5))]
def f225r2 : LS := [o 6 (.mv (t 0)),o 7 (.call 274 [(t 6)]),o 2 (.mv (t 7))]
def f225 : SCode := (.seq (.ops f225r0) (.seq (.cond (b false) (.seq (.ops f225r1) .ret) .skip) (.seq (.ops f225r2) .ret)))
theorem f225_calls : Sound Tryz.prog 225 8 f225 [.t 2] := sound_of mixed Tryz.func225 rfl (by kernel_rfl) (by kernel_rfl) (by kernel_rfl)
def f237r0 : LS := [o 4 (.mv (i 0)),o 5 (.mv (b false))]
def f237r1 : LS := [o 8 (.mv (t 0)),o 9 (.call 240 [(t 8)])]
def f237r2 : LS := [o 4 (.mv (i 0)),o 5 (.mv (b false))]
def f237r3 : LS := [o 11 (.mv (t 0)),o 12 (.nilck (t 11)),o 13 (.fa 1 (t 12)),o 14 (.ld1 (t 13)),o 15 (.mv (t 1)),o 16 (.look .str (.pointer none) true (t 14) (t 15)),o 10 (.mv (t 16)),o 17 (.ext (t 10) 0),o 18 (.ext (t 10) 1),o 6 (.mv (t 17)),o 7 (.mv (t 18))]
def f237r4 : LS := [o 19 (.mv (t 7)),o 20 (.un .not (t 19))]
def f237r5 : LS := [o 4 (.mv (i 0)),o 5 (.mv (b false))]
def f237r6 : LS := [o 21 (.mv (t 6)),o 22 (.nilck (t 21)),o 23 (.fa 0 (t 22)),o 24 (.fa 1 (t 23)),o 25 (.ld1 (t 24)),o 4 (.mv (t 25)),o 5 (.mv (b true))]
def f237 : SCode := (.seq (.ops f237r0) (.seq (.seq (.ops f237r1) (.cond (t 9) (.seq (.ops f237r2) .ret) .skip)) (.seq (.ops f237r3) (.seq (.seq (.ops f237r4) (.cond (t 20) (.seq (.ops f237r5) .ret) .skip)) (.seq (.ops f237r6) .ret)))))
theorem f237_calls : Sound Tryz.prog 237 26 f237 [.t 4, .t 5] := sound_of mixed Tryz.func237 rfl (by kernel_rfl) (by kernel_rfl) (by kernel_rfl)
def f238r0 : LS := [o 0 (.mv (.const (.pointer none)))]
def f238r1 : LS := [o 1 (.mks 16 [(.pointer none), (.int .i64 0)] (i 16) (i 16)),o 2 (.build [(.string ⟨#[]⟩), (.int .i64 0), (.slice none 0 0)] [(2, 1)] [(t 1)]),o 3 (.box (t 2)),o 4 (.mkm),o 5 (.build [(.pointer none), (.map none)] [(0, 1), (1, 1)] [(t 3), (t 4)]),o 6 (.box (t 5)),o 0 (.mv (t 6))]
def f238 : SCode := (.seq (.ops f238r0) (.seq (.ops f238r1) .ret))
theorem f238_calls : Sound Tryz.prog 238 7 f238 [.t 0] := sound_of mixed Tryz.func238 rfl (by kernel_rfl) (by kernel_rfl) (by kernel_rfl)
def f239r0 : LS := [o 4 (.box (t 1))]
def f239r1 : LS := [o 11 (.mv (t 0)),o 12 (.ldn 2 (t 4)),o 13 (.call 242 [(t 12)]),o 14 (.call 241 [(t 11), (t 13)]),o 6 (.mv (t 14))]
def f239r2 : LS := [o 15 (.ldn 2 (t 4)),o 16 (.mv (t 0)),o 17 (.nilck (t 16)),o 18 (.fa 1 (t 17)),o 19 (.ld1 (t 18)),o 20 (.lenm (t 19)),o 21 (.ar .add (t 20) (i 1)),o 22 (.cvt .u64 (t 21)),o 24 (.mv (t 2)),o 25 (.bit .and (t 24) (i 1)),o 23 (.callq 225 [(t 22)]),o 26 (.ar .add (t 23) (t 25)),o 27 (.mn (i 15) (t 26)),o 28 (.ar .add (i 1) (t 27)),o 29 (.mks 16 [(.pointer none), (.int .i64 0)] (t 28) (t 28)),o 30 (.build [(.string ⟨#[]⟩), (.int .i64 0), (.slice none 0 0)] [(0, 2), (2, 1)] [(t 15), (t 29)]),o 31 (.box (t 30)),o 7 (.mv (t 31))]
def f239r3 : LS := [o 32 (.mv (i 0))]
def f239r4 : LS := [o 33 (.cmp .lss (t 32) (i 16))]
def f239r5 : LS := [o 34 (.mv (t 32)),o 8 (.mv (t 34))]
def f239r6 : LS := [o 35 (.mv (t 6)),o 36 (.mv (t 8)),o 37 (.nilck (t 35)),o 38 (.fa 0 (t 37)),o 39 (.ixa 16 1 (t 38) (t 36)),o 40 (.ld1 (t 39)),o 41 (.nilck (t 40)),o 42 (.fa 2 (t 41)),o 43 (.ld1 (t 42)),o 44 (.mv (t 8)),o 45 (.ixs 2 (t 43) (t 44)),o 9 (.mv (t 45))]
def f239r7 : LS := [o 46 (.mv (t 8)),o 47 (.mv (t 7)),o 48 (.nilck (t 47)),o 49 (.fa 2 (t 48)),o 50 (.ld1 (t 49)),o 51 (.len (t 50)),o 52 (.cmp .geq (t 46) (t 51))]
def f239r8 : LS := [o 53 (.mv (t 9)),o 54 (.nilck (t 53)),o 55 (.fa 1 (t 54)),o 56 (.ld1 (t 55)),o 57 (.ar .add (t 56) (i 1)),o 58 (.nilck (t 53)),o 59 (.fa 1 (t 58)),
 q (.st 1 (t 59) (t 57))]
def f239r9 : LS := [o 60 (.mv (t 6)),o 61 (.nilck (t 60)),o 62 (.fa 16 (t 61)),o 63 (.ixa 16 1 (t 62) (i 0)),o 64 (.ld1 (t 63)),o 65 (.mv (t 6)),o 66 (.mv (t 8)),o 67 (.nilck (t 65)),o 68 (.fa 16 (t 67)),o 69 (.ixa 16 1 (t 68) (t 66)),o 70 (.ld1 (t 69)),o 71 (.ar .sub (t 64) (t 70)),o 10 (.mv (t 71))]
def f239r10 : LS := [o 72 (.mv (t 7)),o 73 (.nilck (t 72)),o 74 (.fa 2 (t 73)),o 75 (.ld1 (t 74)),o 76 (.mv (t 8)),o 77 (.mv (t 9)),o 78 (.nilck (t 77)),o 79 (.fa 0 (t 78)),o 80 (.ld1 (t 79)),o 81 (.mv (t 9)),o 82 (.nilck (t 81)),o 83 (.fa 1 (t 82)),o 84 (.ld1 (t 83)),o 85 (.mv (t 10)),o 86 (.ar .sub (t 84) (t 85)),o 87 (.build [(.pointer none), (.int .i64 0)] [(0, 1), (1, 1)] [(t 80), (t 86)]),o 88 (.ixs 2 (t 75) (t 76)),
 q (.st 2 (t 88) (t 87))]
def f239r11 : LS := [o 89 (.mv (t 9)),o 90 (.mv (t 7)),o 91 (.mv (t 10)),o 92 (.ar .add (t 91) (i 1)),o 93 (.build [(.pointer none), (.int .i64 0)] [(0, 1), (1, 1)] [(t 90), (t 92)]),o 94 (.nilck (t 89)),
 q (.st 2 (t 94) (t 93))]
def f239r12 : LS := [o 95 (.ar .add (t 32) (i 1)),o 32 (.mv (t 95))]
def f239l13 : SCode := (.seq (.ops f239r4) (.seq (.cond (t 33) .skip (.exit 0)) (.seq (.block 1 (.seq (.ops f239r5) (.seq (.ops f239r6) (.seq (.seq (.ops f239r7) (.cond (t 52) (.seq (.ops f239r8) (.exit 1)) .skip)) (.seq (.ops f239r9) (.seq (.ops f239r10) (.ops f239r11))))))) (.ops f239r12))))
def f239r14 : LS := [o 96 (.mv (t 0)),o 97 (.nilck (t 96)),o 98 (.fa 1 (t 97)),o 99 (.ld1 (t 98)),o 100 (.fa 0 (t 4)),o 101 (.ld1 (t 100)),o 102 (.mv (t 7)),
 q (.mup .str (t 99) (t 101) (t 102))]
def f239 : SCode := (.seq (.ops f239r0) (.seq (.ops f239r1) (.seq (.ops f239r2) (.seq (.seq (.ops f239r3) (.block 0 (.loop f239l13))) (.ops f239r14)))))
theorem f239_calls : Sound Tryz.prog 239 103 f239 [] := sound_of mixed Tryz.func239 rfl (by kernel_rfl) (by kernel_rfl) (by kernel_rfl)
def f240r0 : LS := [o 2 (.mv (b false))]
def f240r1 : LS := [o 3 (.mv (t 0)),o 4 (.eqn 0 false (t 3)),o 5 (.mv (t 4)),
 n 6 5 (.mv (t 0)),
 n 7 5 (.nilck (t 6)),
 n 8 5 (.fa 0 (t 7)),
 n 9 5 (.ld1 (t 8)),
 n 10 5 (.eqn 0 false (t 9)),o 11 (.pick (t 5) (b true) (t 10)),o 2 (.mv (t 11))]
def f240 : SCode := (.seq (.ops f240r0) (.seq (.ops f240r1) .ret))
theorem f240_calls : Sound Tryz.prog 240 12 f240 [.t 2] := sound_of mixed Tryz.func240 rfl (by kernel_rfl) (by kernel_rfl) (by kernel_rfl)
def f241r0 : LS := [o 4 (.mv (.const (.pointer none)))]
def f241r1 : LS := [o 5 (.new [(.pointer none), (.pointer none), (.pointer none), (.pointer none), (.pointer none), (.pointer none), (.pointer none), (.pointer none), (.pointer none), (.pointer none), (.pointer none), (.pointer none), (.pointer none), (.pointer none), (.pointer none), (.pointer none), (.int .i64 0), (.int .i64 0), (.int .i64 0), (.int .i64 0), (.int .i64 0), (.int .i64 0), (.int .i64 0), (.int .i64 0), (.int .i64 0), (.int .i64 0), (.int .i64 0), (.int .i64 0), (.int .i64 0), (.int .i64 0), (.int .i64 0), (.int .i64 0)])]
def f241r2 : LS := [o 10 (.mv (t 0)),o 11 (.nilck (t 10)),o 12 (.fa 0 (t 11)),o 13 (.ld1 (t 12)),o 6 (.mv (t 13)),o 7 (.mv (i 0))]
def f241r3 : LS := [o 8 (.mv (i 15))]
def f241r4 : LS := [o 14 (.mv (t 8)),o 15 (.cmp .geq (t 14) (i 0))]
def f241r5 : LS := [o 18 (.mv (t 6)),o 19 (.nilck (t 18)),o 20 (.fa 2 (t 19)),o 21 (.ld1 (t 20)),o 22 (.mv (t 8)),o 23 (.ixs 2 (t 21) (t 22)),o 24 (.ldn 2 (t 23)),o 9 (.new [(.pointer none), (.int .i64 0)]),
 q (.st 2 (t 9) (t 24))]
def f241r6 : LS := [o 25 (.fa 0 (t 9)),o 26 (.ld1 (t 25)),o 27 (.eqn 0 false (t 26)),o 28 (.mv (t 27)),
 n 29 28 (.mv (t 1)),
 n 30 28 (.fa 0 (t 9)),
 n 31 28 (.ld1 (t 30)),
 n 32 28 (.nilck (t 31)),
 n 33 28 (.fa 0 (t 32)),
 n 34 28 (.ldn 2 (t 33)),
 n 35 28 (.mv (t 7)),
 n 36 28 (.fa 1 (t 9)),
 n 37 28 (.ld1 (t 36)),
 n 38 28 (.ar .add (t 35) (t 37)),
 n 39 28 (.ar .sub (t 38) (i 1)),
 n 40 28 (.callv (t 29) [(t 34), (t 39)]),
 n 41 28 (.un .not (t 40)),o 42 (.pick (t 28) (b true) (t 41))]
def f241r7 : LS := [o 43 (.fa 0 (t 9)),o 44 (.ld1 (t 43)),o 45 (.mv (t 7)),o 46 (.fa 1 (t 9)),o 47 (.ld1 (t 46)),o 48 (.ar .add (t 45) (t 47)),o 6 (.mv (t 44)),o 7 (.mv (t 48))]
def f241l8 : SCode := (.block 3 (.seq (.ops f241r5) (.seq (.seq (.ops f241r6) (.cond (t 42) (.exit 2) .skip)) (.ops f241r7))))
def f241r9 : LS := [o 49 (.mv (t 8)),o 50 (.mv (t 8)),o 51 (.mv (t 6)),o 52 (.mv (t 7)),o 53 (.fa 0 (t 5)),o 54 (.ixa 16 1 (t 53) (t 49)),
 q (.st 1 (t 54) (t 51)),o 55 (.fa 16 (t 5)),o 56 (.ixa 16 1 (t 55) (t 50)),
 q (.st 1 (t 56) (t 52))]
def f241r10 : LS := [o 16 (.mv (t 8)),o 17 (.ar .sub (t 16) (i 1)),o 8 (.mv (t 17))]
def f241l11 : SCode := (.seq (.seq (.ops f241r4) (.cond (t 15) .skip (.exit 0))) (.seq (.block 1 (.seq (.block 2 (.loop f241l8)) (.ops f241r9))) (.ops f241r10)))
def f241r12 : LS := [o 4 (.mv (t 5))]
def f241 : SCode := (.seq (.ops f241r0) (.seq (.ops f241r1) (.seq (.ops f241r2) (.seq (.seq (.ops f241r3) (.block 0 (.loop f241l11))) (.seq (.ops f241r12) .ret)))))
theorem f241_calls : Sound Tryz.prog 241 57 f241 [.t 4] := sound_of mixed Tryz.func241 rfl (by kernel_rfl) (by kernel_rfl) (by kernel_rfl)
def f242r0 : LS := [o 1 (.box (t 0)),o 2 (.mv (.const .nilFunc))]
def f242r1 : LS := [o 3 (.fn 279 [] [(t 1)]),o 2 (.mv (t 3))]
def f242 : SCode := (.seq (.ops f242r0) (.seq (.ops f242r1) .ret))
theorem f242_calls : Sound Tryz.prog 242 4 f242 [.t 2] := sound_of mixed Tryz.func242 rfl (by kernel_rfl) (by kernel_rfl) (by kernel_rfl)
def f243r0 : LS := [o 6 (.mv (.const (.slice none 0 0)))]
def f243r1 : LS := [o 11 (.mv (t 0)),o 12 (.call 240 [(t 11)])]
def f243r2 : LS := [o 6 (.mv (.const (.slice none 0 0)))]
def f243r3 : LS := [o 7 (.mv (.const (.slice none 0 0)))]
def f243r4 : LS := [o 13 (.mv (t 0)),o 14 (.mv (t 1)),o 15 (.call 241 [(t 13), (t 14)]),o 8 (.mv (t 15))]
def f243r5 : LS := [o 16 (.mv (t 8)),o 17 (.nilck (t 16)),o 18 (.fa 16 (t 17)),o 19 (.ixa 16 1 (t 18) (i 0)),o 20 (.ld1 (t 19)),o 9 (.mv (t 20))]
def f243r6 : LS := [o 21 (.mv (t 8)),o 22 (.nilck (t 21)),o 23 (.fa 0 (t 22)),o 24 (.ixa 16 1 (t 23) (i 0)),o 25 (.ld1 (t 24)),o 26 (.nilck (t 25)),o 27 (.fa 2 (t 26)),o 28 (.ld1 (t 27)),o 29 (.ixs 2 (t 28) (i 0)),o 30 (.fa 0 (t 29)),o 31 (.ld1 (t 30)),o 10 (.mv (t 31))]
def f243r7 : LS := [o 32 (.mv (t 10)),o 33 (.eqn 0 true (t 32)),o 34 (.mv (t 33)),
 g 35 34 (.mv (t 2)),
 g 36 34 (.mv (t 10)),
 g 37 34 (.nilck (t 36)),
 g 38 34 (.fa 0 (t 37)),
 g 39 34 (.ldn 2 (t 38)),
 g 40 34 (.mv (t 9)),
 g 41 34 (.callv (t 35) [(t 39), (t 40)]),o 42 (.pick (t 34) (t 41) (b false))]
def f243r8 : LS := [o 50 (.mv (t 7)),o 51 (.mv (t 10)),o 52 (.nilck (t 51)),o 53 (.fa 0 (t 52)),o 54 (.ldn 2 (t 53)),o 55 (.bslice [(.string ⟨#[]⟩), (.int .i64 0)] 1 [(0, 2)] [(t 54)]),o 56 (.app 2 24 [(.string ⟨#[]⟩), (.int .i64 0)] (t 50) (t 55)),o 7 (.mv (t 56))]
def f243r9 : LS := [o 57 (.mv (t 9)),o 58 (.ar .add (t 57) (i 1)),o 9 (.mv (t 58))]
def f243r10 : LS := [o 43 (.mv (t 10)),o 44 (.nilck (t 43)),o 45 (.fa 2 (t 44)),o 46 (.ld1 (t 45)),o 47 (.ixs 2 (t 46) (i 0)),o 48 (.fa 0 (t 47)),o 49 (.ld1 (t 48)),o 10 (.mv (t 49))]
def f243l11 : SCode := (.seq (.seq (.ops f243r7) (.cond (t 42) .skip (.exit 0))) (.seq (.block 1 (.seq (.ops f243r8) (.ops f243r9))) (.ops f243r10)))
def f243r12 : LS := [o 59 (.mv (t 7)),o 6 (.mv (t 59))]
def f243 : SCode := (.seq (.ops f243r0) (.seq (.seq (.ops f243r1) (.cond (t 12) (.seq (.ops f243r2) .ret) .skip)) (.seq (.ops f243r3) (.seq (.ops f243r4) (.seq (.ops f243r5) (.seq (.seq (.ops f243r6) (.block 0 (.loop f243l11))) (.seq (.ops f243r12) .ret)))))))
theorem f243_calls : Sound Tryz.prog 243 60 f243 [.t 6] := sound_of mixed Tryz.func243 rfl (by kernel_rfl) (by kernel_rfl) (by kernel_rfl)
def f244r0 : LS := [o 3 (.box (t 0)),o 5 (.mv (b false))]
def f244r1 : LS := [o 6 (.mv (t 1)),o 7 (.ld1 (t 2)),o 8 (.cmp .lss (t 6) (t 7)),o 5 (.mv (t 8))]
def f244 : SCode := (.seq (.ops f244r0) (.seq (.ops f244r1) .ret))
theorem f244_calls : Sound Tryz.prog 244 9 f244 [.t 5] := sound_of mixed Tryz.func244 rfl (by kernel_rfl) (by kernel_rfl) (by kernel_rfl)
def f245r0 : LS := [o 3 (.box (t 0)),o 5 (.mv (b false))]
def f245r1 : LS := [o 6 (.mv (t 1)),o 7 (.ld1 (t 2)),o 8 (.cmp .lss (t 6) (t 7)),o 5 (.mv (t 8))]
def f245 : SCode := (.seq (.ops f245r0) (.seq (.ops f245r1) .ret))
theorem f245_calls : Sound Tryz.prog 245 9 f245 [.t 5] := sound_of mixed Tryz.func245 rfl (by kernel_rfl) (by kernel_rfl) (by kernel_rfl)
def f246r0 : LS := [o 3 (.box (t 0)),o 5 (.mv (b false))]
def f246r1 : LS := [o 6 (.fa 1 (t 3)),o 7 (.ld1 (t 6)),o 8 (.ld1 (t 2)),o 9 (.cmp .lss (t 7) (t 8)),o 5 (.mv (t 9))]
def f246 : SCode := (.seq (.ops f246r0) (.seq (.ops f246r1) .ret))
theorem f246_calls : Sound Tryz.prog 246 10 f246 [.t 5] := sound_of mixed Tryz.func246 rfl (by kernel_rfl) (by kernel_rfl) (by kernel_rfl)
def f247r0 : LS := [o 3 (.box (t 0)),o 5 (.mv (b false))]
def f247r1 : LS := [o 6 (.fa 1 (t 3)),o 7 (.ld1 (t 6)),o 8 (.ld1 (t 2)),o 9 (.cmp .leq (t 7) (t 8)),o 5 (.mv (t 9))]
def f247 : SCode := (.seq (.ops f247r0) (.seq (.ops f247r1) .ret))
theorem f247_calls : Sound Tryz.prog 247 10 f247 [.t 5] := sound_of mixed Tryz.func247 rfl (by kernel_rfl) (by kernel_rfl) (by kernel_rfl)
def f274r0 : LS := [o 2 (.mv (i 0))]
def f274r1 : LS := [o 3 (.mv (t 0)),o 4 (.cmp .eql (t 3) (.const (.int .u64 0)))]
def f274r2 : LS := [o 2 (.mv (i 64))]
def f274r3 : LS := [o 5 (.mv (t 0)),o 6 (.mv (t 0)),o 7 (.un .neg (t 6)),o 8 (.bit .and (t 5) (t 7)),o 9 (.ar .mul (t 8) (.const (.int .u64 285870213051353865))),o 10 (.sh .u64 false 58 (t 9)),o 11 (.ixa 64 1 (.global 3) (t 10)),o 12 (.ld1 (t 11)),o 13 (.cvt .i64 (t 12)),o 2 (.mv (t 13))]
def f274 : SCode := (.seq (.ops f274r0) (.seq (.seq (.ops f274r1) (.cond (t 4) (.seq (.ops f274r2) .ret) .skip)) (.seq (.ops f274r3) .ret)))
theorem f274_calls : Sound Tryz.prog 274 14 f274 [.t 2] := sound_of mixed Tryz.func274 rfl (by kernel_rfl) (by kernel_rfl) (by kernel_rfl)
def f279r0 : LS := [o 3 (.box (t 0)),o 5 (.mv (b false))]
def f279r1 : LS := [o 6 (.fa 1 (t 3)),o 7 (.ld1 (t 6)),o 8 (.fa 1 (t 2)),o 9 (.ld1 (t 8)),o 10 (.cmp .lss (t 7) (t 9)),o 11 (.mv (t 10)),
 n 12 11 (.fa 1 (t 3)),
 n 13 11 (.ld1 (t 12)),
 n 14 11 (.fa 1 (t 2)),
 n 15 11 (.ld1 (t 14)),
 n 16 11 (.cmp .eql (t 13) (t 15)),
 n 17 11 (.mv (t 16)),
 g 18 17 (.fa 0 (t 3)),
 g 19 17 (.ld1 (t 18)),
 g 20 17 (.fa 0 (t 2)),
 g 21 17 (.ld1 (t 20)),
 g 22 17 (.cmp .lss (t 19) (t 21)),
 n 23 11 (.pick (t 17) (t 22) (b false)),o 24 (.pick (t 11) (b true) (t 23)),o 5 (.mv (t 24))]
def f279 : SCode := (.seq (.ops f279r0) (.seq (.ops f279r1) .ret))
theorem f279_calls : Sound Tryz.prog 279 25 f279 [.t 5] := sound_of mixed Tryz.func279 rfl (by kernel_rfl) (by kernel_rfl) (by kernel_rfl)
end Go.Proofs.YtjnijlnmbjjgpaaGreatDoor.C
set_option maxRecDepth 100000
namespace Go.Proofs.YtjnijlnmbjjgpaaGreatDoor.C
open Go Go.Sx Go.Sx.S
def f9r0 : LS := [o 6 (.mv (b false))]
def f9r1 : LS := [o 14 (.mv (t 0)),o 15 (.mv (t 2)),o 16 (.call 12 [(t 14), (t 15)])]
def f9r2 : LS := [o 17 (.call 13 []),o 6 (.mv (t 17))]
def f9r3 : LS := [o 19 (.mv (t 0)),o 20 (.call 19 [(t 19)]),o 18 (.mv (t 20)),o 21 (.ext (t 18) 0),o 22 (.ext (t 18) 1),o 7 (.mv (t 21)),o 8 (.mv (t 22))]
def f9r4 : LS := [o 23 (.mv (t 8)),o 24 (.cmp .neq (t 23) (i 0))]
def f9r5 : LS := [o 25 (.mv (t 7)),o 26 (.eqn 0 false (t 25)),o 27 (.mv (t 26)),
 g 28 27 (.call 13 []),o 29 (.pick (t 27) (t 28) (b false)),o 6 (.mv (t 29))]
def f9r6 : LS := [o 31 (.mv (t 7)),o 32 (.mv (t 1)),o 33 (.mv (t 2)),o 34 (.call 20 [(t 31), (t 32), (t 33)]),o 30 (.mv (t 34)),o 35 (.ext (t 30) 0),o 36 (.ext (t 30) 1),o 37 (.ext (t 30) 2),o 9 (.new [(.int .i64 0), (.int .i64 0), (.string ⟨#[]⟩), (.slice none 0 0)]),
 q (.st 4 (t 9) (t 35)),o 10 (.mv (t 36)),o 11 (.mv (t 37))]
def f9r7 : LS := [o 38 (.mv (t 11)),o 39 (.un .not (t 38)),o 40 (.mv (t 39)),
 n 41 40 (.fa 0 (t 9)),
 n 42 40 (.ld1 (t 41)),
 n 43 40 (.cmp .eql (t 42) (i 2)),o 44 (.pick (t 40) (b true) (t 43))]
def f9r8 : LS := [o 45 (.mv (t 10)),o 46 (.len (t 45)),o 47 (.cmp .eql (t 46) (i 0)),o 48 (.mv (t 47)),
 g 49 48 (.call 13 []),o 50 (.pick (t 48) (t 49) (b false)),o 6 (.mv (t 50))]
def f9r9 : LS := [o 52 (.mv (t 7)),o 53 (.mv (t 10)),o 54 (.call 21 [(t 52), (t 53)]),o 51 (.mv (t 54)),o 55 (.ext (t 51) 0),o 56 (.ext (t 51) 1),o 12 (.mv (t 55)),o 13 (.mv (t 56))]
def f9r10 : LS := [o 57 (.mv (t 12)),o 58 (.mv (t 10)),o 59 (.len (t 58)),o 60 (.cmp .eql (t 57) (t 59)),o 61 (.mv (t 60)),
 g 62 61 (.mv (t 13)),
 g 63 61 (.cmp .eql (t 62) (i 0)),o 64 (.pick (t 61) (t 63) (b false)),o 65 (.mv (t 64)),
 g 66 65 (.call 13 []),o 67 (.pick (t 65) (t 66) (b false)),o 6 (.mv (t 67))]
def f9 : SCode := (.seq (.ops f9r0) (.seq (.seq (.ops f9r1) (.cond (t 16) (.seq (.ops f9r2) .ret) .skip)) (.seq (.ops f9r3) (.seq (.seq (.ops f9r4) (.cond (t 24) (.seq (.ops f9r5) .ret) .skip)) (.seq (.ops f9r6) (.seq (.seq (.ops f9r7) (.cond (t 44) (.seq (.ops f9r8) .ret) .skip)) (.seq (.ops f9r9) (.seq (.ops f9r10) .ret))))))))
theorem f9_calls : Sound Tryz.prog 9 68 f9 [.t 6] := sound_of mixed Tryz.func9 rfl (by kernel_rfl) (by kernel_rfl) (by kernel_rfl)
def f12r0 : LS := [o 4 (.mv (b false))]
def f12r1 : LS := [o 7 (.mv (t 0)),o 8 (.len (t 7)),o 9 (.cmp .gtr (t 8) (i 20)),o 10 (.mv (t 9)),
 n 11 10 (.mv (t 1)),
 n 12 10 (.len (t 11)),
 n 13 10 (.cmp .gtr (t 12) (i 20)),o 14 (.pick (t 10) (b true) (t 13))]
def f12r2 : LS := [o 4 (.mv (b true))]
def f12r3 : LS := [o 5 (.mv (i 0))]
def f12r4 : LS := [o 15 (.mv (t 5)),o 16 (.mv (t 0)),o 17 (.len (t 16)),o 18 (.cmp .lss (t 15) (t 17))]
def f12r5 : LS := [o 21 (.mv (t 0)),o 22 (.mv (t 5)),o 23 (.ixs 8 (t 21) (t 22)),o 24 (.fa 0 (t 23)),o 25 (.ld1 (t 24)),o 26 (.lens (t 25)),o 27 (.cmp .gtr (t 26) (i 300)),o 28 (.mv (t 27)),
 n 29 28 (.mv (t 0)),
 n 30 28 (.mv (t 5)),
 n 31 28 (.ixs 8 (t 29) (t 30)),
 n 32 28 (.fa 1 (t 31)),
 n 33 28 (.ldn 7 (t 32)),
 n 34 28 (.call 30 [(t 33)]),o 35 (.pick (t 28) (b true) (t 34))]
def f12r6 : LS := [o 4 (.mv (b true))]
def f12r7 : LS := [o 19 (.mv (t 5)),o 20 (.ar .add (t 19) (i 1)),o 5 (.mv (t 20))]
def f12l8 : SCode := (.seq (.seq (.ops f12r4) (.cond (t 18) .skip (.exit 0))) (.seq (.block 1 (.seq (.ops f12r5) (.cond (t 35) (.seq (.ops f12r6) .ret) .skip))) (.ops f12r7)))
def f12r9 : LS := [o 6 (.mv (i 0))]
def f12r10 : LS := [o 36 (.mv (t 6)),o 37 (.mv (t 1)),o 38 (.len (t 37)),o 39 (.cmp .lss (t 36) (t 38))]
def f12r11 : LS := [o 42 (.mv (t 1)),o 43 (.mv (t 6)),o 44 (.ixs 1 (t 42) (t 43)),o 45 (.ld1 (t 44)),o 46 (.lens (t 45)),o 47 (.cmp .gtr (t 46) (i 300))]
def f12r12 : LS := [o 4 (.mv (b true))]
def f12r13 : LS := [o 40 (.mv (t 6)),o 41 (.ar .add (t 40) (i 1)),o 6 (.mv (t 41))]
def f12l14 : SCode := (.seq (.seq (.ops f12r10) (.cond (t 39) .skip (.exit 2))) (.seq (.block 3 (.seq (.ops f12r11) (.cond (t 47) (.seq (.ops f12r12) .ret) .skip))) (.ops f12r13)))
def f12r15 : LS := [o 4 (.mv (b false))]
def f12 : SCode := (.seq (.ops f12r0) (.seq (.seq (.ops f12r1) (.cond (t 14) (.seq (.ops f12r2) .ret) .skip)) (.seq (.seq (.ops f12r3) (.block 0 (.loop f12l8))) (.seq (.seq (.ops f12r9) (.block 2 (.loop f12l14))) (.seq (.ops f12r15) .ret)))))
theorem f12_calls : Sound Tryz.prog 12 48 f12 [.t 4] := sound_of mixed Tryz.func12 rfl (by kernel_rfl) (by kernel_rfl) (by kernel_rfl)
def f30r0 : LS := [o 1 (.box (t 0)),o 2 (.mv (b false))]
def f30r1 : LS := [o 7 (.fa 1 (t 1)),o 8 (.ld1 (t 7)),o 9 (.lens (t 8)),o 3 (.mv (t 9))]
def f30r2 : LS := [o 10 (.fa 2 (t 1)),o 11 (.ld1 (t 10)),o 12 (.len (t 11)),o 13 (.cmp .gtr (t 12) (i 40)),o 14 (.mv (t 13)),
 n 15 14 (.fa 3 (t 1)),
 n 16 14 (.ld1 (t 15)),
 n 17 14 (.len (t 16)),
 n 18 14 (.cmp .gtr (t 17) (i 40)),o 19 (.pick (t 14) (b true) (t 18)),o 20 (.mv (t 19)),
 n 21 20 (.fa 4 (t 1)),
 n 22 20 (.ld1 (t 21)),
 n 23 20 (.len (t 22)),
 n 24 20 (.cmp .gtr (t 23) (i 40)),o 25 (.pick (t 20) (b true) (t 24)),o 26 (.mv (t 25)),
 n 27 26 (.mv (t 3)),
 n 28 26 (.cmp .gtr (t 27) (i 2000)),o 29 (.pick (t 26) (b true) (t 28))]
def f30r3 : LS := [o 2 (.mv (b true))]
def f30r4 : LS := [o 4 (.mv (i 0))]
def f30r5 : LS := [o 30 (.mv (t 4)),o 31 (.fa 2 (t 1)),o 32 (.ld1 (t 31)),o 33 (.len (t 32)),o 34 (.cmp .lss (t 30) (t 33))]
def f30r6 : LS := [o 37 (.mv (t 3)),o 38 (.fa 2 (t 1)),o 39 (.ld1 (t 38)),o 40 (.mv (t 4)),o 41 (.ixs 2 (t 39) (t 40)),o 42 (.fa 0 (t 41)),o 43 (.ld1 (t 42)),o 44 (.lens (t 43)),o 45 (.ar .add (t 37) (t 44)),o 46 (.fa 2 (t 1)),o 47 (.ld1 (t 46)),o 48 (.mv (t 4)),o 49 (.ixs 2 (t 47) (t 48)),o 50 (.fa 1 (t 49)),o 51 (.ld1 (t 50)),o 52 (.lens (t 51)),o 53 (.ar .add (t 45) (t 52)),o 3 (.mv (t 53))]
def f30r7 : LS := [o 54 (.mv (t 3)),o 55 (.cmp .gtr (t 54) (i 2000))]
def f30r8 : LS := [o 2 (.mv (b true))]
def f30r9 : LS := [o 35 (.mv (t 4)),o 36 (.ar .add (t 35) (i 1)),o 4 (.mv (t 36))]
def f30l10 : SCode := (.seq (.seq (.ops f30r5) (.cond (t 34) .skip (.exit 0))) (.seq (.block 1 (.seq (.ops f30r6) (.seq (.ops f30r7) (.cond (t 55) (.seq (.ops f30r8) .ret) .skip)))) (.ops f30r9)))
def f30r11 : LS := [o 5 (.mv (i 0))]
def f30r12 : LS := [o 56 (.mv (t 5)),o 57 (.fa 3 (t 1)),o 58 (.ld1 (t 57)),o 59 (.len (t 58)),o 60 (.cmp .lss (t 56) (t 59))]
def f30r13 : LS := [o 63 (.mv (t 3)),o 64 (.fa 3 (t 1)),o 65 (.ld1 (t 64)),o 66 (.mv (t 5)),o 67 (.ixs 1 (t 65) (t 66)),o 68 (.ld1 (t 67)),o 69 (.lens (t 68)),o 70 (.ar .add (t 63) (t 69)),o 3 (.mv (t 70))]
def f30r14 : LS := [o 71 (.mv (t 3)),o 72 (.cmp .gtr (t 71) (i 2000))]
def f30r15 : LS := [o 2 (.mv (b true))]
def f30r16 : LS := [o 61 (.mv (t 5)),o 62 (.ar .add (t 61) (i 1)),o 5 (.mv (t 62))]
def f30l17 : SCode := (.seq (.seq (.ops f30r12) (.cond (t 60) .skip (.exit 2))) (.seq (.block 3 (.seq (.ops f30r13) (.seq (.ops f30r14) (.cond (t 72) (.seq (.ops f30r15) .ret) .skip)))) (.ops f30r16)))
def f30r18 : LS := [o 6 (.mv (i 0))]
def f30r19 : LS := [o 73 (.mv (t 6)),o 74 (.fa 4 (t 1)),o 75 (.ld1 (t 74)),o 76 (.len (t 75)),o 77 (.cmp .lss (t 73) (t 76))]
def f30r20 : LS := [o 80 (.mv (t 3)),o 81 (.fa 4 (t 1)),o 82 (.ld1 (t 81)),o 83 (.mv (t 6)),o 84 (.ixs 2 (t 82) (t 83)),o 85 (.fa 0 (t 84)),o 86 (.ld1 (t 85)),o 87 (.lens (t 86)),o 88 (.ar .add (t 80) (t 87)),o 3 (.mv (t 88))]
def f30r21 : LS := [o 89 (.mv (t 3)),o 90 (.cmp .gtr (t 89) (i 2000))]
def f30r22 : LS := [o 2 (.mv (b true))]
def f30r23 : LS := [o 78 (.mv (t 6)),o 79 (.ar .add (t 78) (i 1)),o 6 (.mv (t 79))]
def f30l24 : SCode := (.seq (.seq (.ops f30r19) (.cond (t 77) .skip (.exit 4))) (.seq (.block 5 (.seq (.ops f30r20) (.seq (.ops f30r21) (.cond (t 90) (.seq (.ops f30r22) .ret) .skip)))) (.ops f30r23)))
def f30r25 : LS := [o 2 (.mv (b false))]
def f30 : SCode := (.seq (.ops f30r0) (.seq (.ops f30r1) (.seq (.seq (.ops f30r2) (.cond (t 29) (.seq (.ops f30r3) .ret) .skip)) (.seq (.seq (.ops f30r4) (.block 0 (.loop f30l10))) (.seq (.seq (.ops f30r11) (.block 2 (.loop f30l17))) (.seq (.seq (.ops f30r18) (.block 4 (.loop f30l24))) (.seq (.ops f30r25) .ret)))))))
theorem f30_calls : Sound Tryz.prog 30 91 f30 [.t 2] := sound_of mixed Tryz.func30 rfl (by kernel_rfl) (by kernel_rfl) (by kernel_rfl)
end Go.Proofs.YtjnijlnmbjjgpaaGreatDoor.C
set_option maxRecDepth 100000
namespace Go.Proofs.YtjnijlnmbjjgpaaGreatDoor.C
open Go Go.Sx Go.Sx.S
def f229r0 : LS := [o 4 (.mv (i 0))]
def f229r1 : LS := [o 6 (.mv (t 0)),o 7 (.len (t 6)),o 8 (.mv (i 0))]
def f229r2 : LS := [o 9 (.cmp .lss (t 8) (t 7))]
def f229r3 : LS := [o 10 (.mv (t 8)),o 5 (.mv (t 10))]
def f229r4 : LS := [o 11 (.mv (t 1)),o 12 (.mv (t 0)),o 13 (.mv (t 5)),o 14 (.ixs 2 (t 12) (t 13)),o 15 (.ldn 2 (t 14)),o 16 (.callv (t 11) [(t 15)])]
def f229r5 : LS := [o 17 (.mv (t 5)),o 4 (.mv (t 17))]
def f229r6 : LS := [o 18 (.ar .add (t 8) (i 1)),o 8 (.mv (t 18))]
def f229l7 : SCode := (.seq (.ops f229r2) (.seq (.cond (t 9) .skip (.exit 0)) (.seq (.block 1 (.seq (.ops f229r3) (.seq (.ops f229r4) (.cond (t 16) (.seq (.ops f229r5) .ret) .skip)))) (.ops f229r6))))
def f229r8 : LS := [o 4 (.mv (i (-1)))]
def f229 : SCode := (.seq (.ops f229r0) (.seq (.seq (.ops f229r1) (.block 0 (.loop f229l7))) (.seq (.ops f229r8) .ret)))
theorem f229_calls : Sound Tryz.prog 229 19 f229 [.t 4] := sound_of mixed Tryz.func229 rfl (by kernel_rfl) (by kernel_rfl) (by kernel_rfl)
def f235r0 : LS := [o 4 (.mv (i 0)),o 5 (.mv (b false))]
def f235r1 : LS := [o 10 (.mv (t 0)),o 11 (.len (t 10)),o 6 (.mv (t 11))]
def f235r2 : LS := [o 12 (.mv (t 6)),o 7 (.mv (i 0)),o 8 (.mv (t 12))]
def f235r3 : LS := [o 13 (.mv (t 7)),o 14 (.mv (t 8)),o 15 (.cmp .lss (t 13) (t 14))]
def f235r4 : LS := [o 16 (.mv (t 7)),o 17 (.mv (t 8)),o 18 (.ar .add (t 16) (t 17)),o 19 (.cvt .u64 (t 18)),o 20 (.sh .u64 false 1 (t 19)),o 21 (.cvt .i64 (t 20)),o 9 (.mv (t 21))]
def f235r5 : LS := [o 22 (.mv (t 0)),o 23 (.mv (t 9)),o 24 (.ixs 1 (t 22) (t 23)),o 25 (.ld1 (t 24)),o 26 (.mv (t 1)),o 27 (.call 277 [(t 25), (t 26)])]
def f235r6 : LS := [o 28 (.mv (t 9)),o 29 (.ar .add (t 28) (i 1)),o 7 (.mv (t 29))]
def f235r7 : LS := [o 30 (.mv (t 9)),o 8 (.mv (t 30))]
def f235l8 : SCode := (.seq (.seq (.ops f235r3) (.cond (t 15) .skip (.exit 0))) (.block 1 (.seq (.ops f235r4) (.seq (.ops f235r5) (.cond (t 27) (.ops f235r6) (.ops f235r7))))))
def f235r9 : LS := [o 31 (.mv (t 7)),o 32 (.mv (t 7)),o 33 (.mv (t 6)),o 34 (.cmp .lss (t 32) (t 33)),o 35 (.mv (t 34)),
 g 36 35 (.mv (t 0)),
 g 37 35 (.mv (t 7)),
 g 38 35 (.ixs 1 (t 36) (t 37)),
 g 39 35 (.ld1 (t 38)),
 g 40 35 (.mv (t 1)),
 g 41 35 (.cmp .eql (t 39) (t 40)),
 g 42 35 (.mv (t 41)),
 n 43 42 (.mv (t 0)),
 n 44 42 (.mv (t 7)),
 n 45 42 (.ixs 1 (t 43) (t 44)),
 n 46 42 (.ld1 (t 45)),
 n 47 42 (.call 278 [(t 46)]),
 n 48 42 (.mv (t 47)),
 g 49 48 (.mv (t 1)),
 g 50 48 (.call 278 [(t 49)]),
 n 51 42 (.pick (t 48) (t 50) (b false)),
 g 52 35 (.pick (t 42) (b true) (t 51)),o 53 (.pick (t 35) (t 52) (b false)),o 4 (.mv (t 31)),o 5 (.mv (t 53))]
def f235 : SCode := (.seq (.ops f235r0) (.seq (.ops f235r1) (.seq (.ops f235r2) (.seq (.block 0 (.loop f235l8)) (.seq (.ops f235r9) .ret)))))
theorem f235_calls : Sound Tryz.prog 235 54 f235 [.t 4, .t 5] := sound_of mixed Tryz.func235 rfl (by kernel_rfl) (by kernel_rfl) (by kernel_rfl)
def f277r0 : LS := [o 4 (.mv (b false))]
def f277r1 : LS := [o 5 (.mv (t 0)),o 6 (.call 306 [(t 5)]),o 7 (.mv (t 6)),
 g 8 7 (.mv (t 1)),
 g 9 7 (.call 306 [(t 8)]),
 g 10 7 (.un .not (t 9)),o 11 (.pick (t 7) (t 10) (b false)),o 12 (.mv (t 11)),
 n 13 12 (.mv (t 0)),
 n 14 12 (.mv (t 1)),
 n 15 12 (.cmp .lss (t 13) (t 14)),o 16 (.pick (t 12) (b true) (t 15)),o 4 (.mv (t 16))]
def f277 : SCode := (.seq (.ops f277r0) (.seq (.ops f277r1) .ret))
theorem f277_calls : Sound Tryz.prog 277 17 f277 [.t 4] := sound_of mixed Tryz.func277 rfl (by kernel_rfl) (by kernel_rfl) (by kernel_rfl)
def f278r0 : LS := [o 2 (.mv (b false))]
def f278r1 : LS := [o 3 (.mv (t 0)),o 4 (.mv (t 0)),o 5 (.cmp .neq (t 3) (t 4)),o 2 (.mv (t 5))]
def f278 : SCode := (.seq (.ops f278r0) (.seq (.ops f278r1) .ret))
theorem f278_calls : Sound Tryz.prog 278 6 f278 [.t 2] := sound_of mixed Tryz.func278 rfl (by kernel_rfl) (by kernel_rfl) (by kernel_rfl)
def f306r0 : LS := [o 2 (.mv (b false))]
def f306r1 : LS := [o 3 (.mv (t 0)),o 4 (.mv (t 0)),o 5 (.cmp .neq (t 3) (t 4)),o 2 (.mv (t 5))]
def f306 : SCode := (.seq (.ops f306r0) (.seq (.ops f306r1) .ret))
theorem f306_calls : Sound Tryz.prog 306 6 f306 [.t 2] := sound_of mixed Tryz.func306 rfl (by kernel_rfl) (by kernel_rfl) (by kernel_rfl)
end Go.Proofs.YtjnijlnmbjjgpaaGreatDoor.C
namespace Go.Proofs.YtjnijlnmbjjgpaaGreatDoor
open Go Go.Sx C
theorem ixfP_calls {h : Heap} {v : Value} {l : List Pair} {g : Nat} {cap : List Value} {p : Pair → Bool} (hv : SL encP h v l) (hl : l.length < 4611686018427387904)
  (hg : ∀ h' x, Chg [] h h' → CallsH Tryz.prog g (.agg ⟨encP x⟩ :: cap) h' (Ret fun u h'' => u = .bool (p x) ∧ Chg [] h' h'')) :
  CallsH Tryz.prog 229 [v, .func (.func g) #[] ⟨cap⟩] h
   (Ret fun r h' => ((∃ (k : Nat) (hk : k < l.length), r = .int .i64 k ∧ p l[k] = true ∧ ∀ x ∈ l.take k, p x = false) ∨ (r = .int .i64 (-1) ∧ ∀ x ∈ l, p x = false)) ∧ Chg [] h h') := by
 obtain ⟨a, c, rfl, hlc⟩ := hv.form
 refine f229_calls (by simp) ?_
 refine loop_intro (fun k : Nat => [(0, .slice a l.length c), (1, .func (.func g) #[] ⟨cap⟩), (7, .int .i64 l.length), (8, .int .i64 k)]) (fun k h' => k ≤ l.length ∧ Chg [] h h' ∧ ∀ x ∈ l.take k, p x = false) (fun k => l.length - k) 0
  ⟨rfl, rfl, rfl, rfl, trivial⟩ ⟨Nat.zero_le _, Chg.refl h, by simp⟩ ?_
 rintro k h1 ⟨hk, hc, hall⟩
 refine Ai rfl (Ai (fun hlt => ?_) (fun hlt => ?_))
 ·have hlt : k < l.length := by omega
  have hv1 := hv.ext hc
  obtain ⟨b, o, rfl⟩ := hv1.addr (by omega)
  have hcs := hv1.cells encP_len (i := k) (x := l[k]) (by simp [hlt])
  refine Ai (by omega) (Ai (by omega) (Ei (encP l[k]) (Ai rfl (Ai hcs ?_))))
  refine call_ret (hg h1 l[k] hc) ?_
  rintro _ h2 ⟨rfl, hc2⟩
  cases hp : p l[k] with
  |true => exact Ai (.inl ⟨k, hlt, rfl, hp, hall⟩) (hc.nil hc2)
  |false =>
   refine Ai rfl (fun y hy => ?_)
   have hy := add_in hy (by omega) (by omega)
   subst hy
   refine Ai rfl (Ei (k + 1) (Ai ?_ (Ai ?_ ?_)))
   ·exact ⟨rfl, rfl, rfl, rfl, trivial⟩
   ·refine ⟨by omega, hc.nil hc2, fun x hx => ?_⟩
    rw [take_snoc l k hlt] at hx
    rcases List.mem_append.1 hx with hx | hx
    ·exact hall x hx
    ·simp at hx; rw [hx]; exact hp
   ·omega
 ·have hkl : k = l.length := by omega
  subst hkl
  rw [List.take_length] at hall
  exact Ai (.inr ⟨rfl, hall⟩) hc
theorem cNaN_calls {h : Heap} {s : ByteArray} : CallsH Tryz.prog 306 [.string s] h (Ret fun r h' => r = .bool false ∧ h' = h) := by
 refine f306_calls (by simp) ?_
 exact Ai (fun h1 => absurd rfl h1) (fun _ => ⟨rfl, rfl⟩)
theorem sNaN_calls {h : Heap} {s : ByteArray} : CallsH Tryz.prog 278 [.string s] h (Ret fun r h' => r = .bool false ∧ h' = h) := by
 refine f278_calls (by simp) ?_
 exact Ai (fun h1 => absurd rfl h1) (fun _ => ⟨rfl, rfl⟩)
theorem cLess_calls {h : Heap} {x y : ByteArray} : CallsH Tryz.prog 277 [.string x, .string y] h (Ret fun r h' => r = .bool (sless x y) ∧ h' = h) := by
 refine f277_calls (by simp) ?_
 refine callp cNaN_calls ?_
 refine Ai (fun hl => ?_) (fun hl => ?_)
 ·have e : sless x y = true := hl
  exact ⟨by rw [e]; rfl, rfl⟩
 ·have e : sless x y = false := by
   cases hb : sless x y with
   |false => rfl
   |true => exact absurd hb hl
  exact ⟨by rw [e]; rfl, rfl⟩
theorem bsO_calls {h : Heap} {v : Value} {l : List ByteArray} {tgt : ByteArray} (hv : SL encS h v l) (hl : l.length < 4611686018427387904) (hs : l.Pairwise fun a b => sless a b = true) :
  CallsH Tryz.prog 235 [v, .string tgt] h (Ret fun r h' => (∃ k : Nat, r = .tuple #[.int .i64 k, .bool (thereL l tgt)]) ∧ h' = h) := by
 obtain ⟨a, c, rfl, hlc⟩ := hv.form
 have hm : ∀ i j (hj : j < l.length) (hi : i ≤ j), sless l[j] tgt = true → sless (l[i]'(by omega)) tgt = true := fun i j hj hi hb => by
  by_cases e : i = j
  ·subst e; exact hb
  ·exact sless_trans (List.pairwise_iff_getElem.1 hs i j (by omega) hj (by omega)) hb
 refine f235_calls (by simp) ?_
 refine loop_intro (fun p : Nat × Nat => [(0, .slice a l.length c), (1, .string tgt), (6, .int .i64 l.length), (7, .int .i64 p.1), (8, .int .i64 p.2)])
  (fun p h' => p.1 ≤ p.2 ∧ p.2 ≤ l.length ∧ h' = h ∧ (∀ i (_ : i < p.1) (h : i < l.length), sless l[i] tgt = true) ∧ (∀ i (_ : p.2 ≤ i) (h : i < l.length), sless l[i] tgt = false)) (fun p => p.2 - p.1) (0, l.length)
  ⟨rfl, rfl, rfl, rfl, rfl, trivial⟩ ⟨Nat.zero_le _, Nat.le_refl _, rfl, by intro i hi; omega, by intro i hi hh; omega⟩ ?_
 rintro ⟨i, j⟩ h1 ⟨hij, hjl, hc, hlow, hhigh⟩
 have hc := hc.symm
 subst hc
 simp only at hij hjl hlow hhigh
 refine Ai rfl (Ai (fun hlt => ?_) (fun hlt => ?_))
 ·have hlt : i < j := by omega
  refine Ai rfl (fun z hz => ?_)
  have hz := add_in hz (by omega) (by omega)
  subst hz
  intro z hz
  rw [wrapU (by omega) (by omega)] at hz
  subst hz
  refine Ai rfl (fun z hz => ?_)
  have hz : z = ((i : Int) + j) / 2 := by
   have : z = ((i : Int) + j).fdiv (2 ^ 1) := hz
   rw [this, Int.fdiv_eq_ediv_of_nonneg _ (by decide)]
   rfl
  subst hz
  intro z hz
  rw [wrap_in (by omega) (by omega)] at hz
  obtain ⟨m, hm1⟩ : ∃ m : Nat, m = (i + j) / 2 := ⟨_, rfl⟩
  have hz : z = (m : Int) := by omega
  subst hz
  have him : i ≤ m := by omega
  have hmj : m < j := by omega
  have hml : m < l.length := by omega
  obtain ⟨b, o, rfl⟩ := hv.addr (by omega)
  have hcs := hv.cells encS_len (i := m) (x := l[m]) (by simp [hml])
  refine Ai (by omega) (Ai (by omega) (Ei _ (Ai (hcs 0 _ rfl) ?_)))
  refine callp cLess_calls ?_
  cases hb : sless l[m] tgt with
  |true =>
   refine Ai rfl (fun y hy => ?_)
   have hy := add_in hy (by omega) (by omega)
   have hy : y = ((m + 1 : Nat) : Int) := by omega
   subst hy
   refine Ai rfl (Ei (m + 1, j) (Ai ?_ (Ai ?_ ?_)))
   ·exact ⟨rfl, rfl, rfl, rfl, rfl, trivial⟩
   ·refine ⟨by simp only; omega, hjl, rfl, fun q hq hql => ?_, hhigh⟩
    exact hm q m hml (by simp only at hq; omega) hb
   ·simp only; omega
  |false =>
   refine Ai rfl (Ei (i, m) (Ai ?_ (Ai ?_ ?_)))
   ·exact ⟨rfl, rfl, rfl, rfl, rfl, trivial⟩
   ·refine ⟨him, by simp only; omega, rfl, hlow, fun q hq hql => ?_⟩
    cases hbb : sless l[q] tgt with
    |false => rfl
    |true => rw [hm m q hql (by simp only at hq; omega) hbb] at hb; cases hb
   ·simp only; omega
 ·have hij2 : i = j := by omega
  subst hij2
  have hno : (∀ (hi : i < l.length), l[i] ≠ tgt) → thereL l tgt = false := fun hne => decide_eq_false fun hm9 => by
   obtain ⟨q, hq, e⟩ := List.getElem_of_mem hm9
   by_cases h1 : q < i
   ·have := hlow q h1 hq
    rw [e, sless_irrefl] at this
    cases this
   ·by_cases h2 : q = i
    ·subst h2; exact hne hq e
    ·have h3 := List.pairwise_iff_getElem.1 hs i q (by omega) hq (by omega)
     rw [e] at h3
     have h4 := hhigh i (Nat.le_refl _) (by omega)
     rw [h3] at h4
     cases h4
  refine Ai rfl (Ai (fun hin => ?_) (fun hin => ?_))
  ·have hin : i < l.length := by omega
   obtain ⟨b, o, rfl⟩ := hv.addr (by omega)
   have hcs := hv.cells encS_len (i := i) (x := l[i]) (by simp [hin])
   refine Ai (by omega) (Ai (by omega) (Ei _ (Ai (hcs 0 _ rfl) ?_)))
   refine Ai (fun he => ?_) (fun hne => ?_)
   ·have e : thereL l tgt = true := decide_eq_true (by rw [← show l[i] = tgt from he]; exact List.getElem_mem hin)
    exact ⟨⟨i, by rw [e]; rfl⟩, rfl⟩
   ·refine Ai (by omega) (Ai (by omega) (Ei _ (Ai (hcs 0 _ rfl) ?_)))
    refine callp sNaN_calls ?_
    exact ⟨⟨i, by rw [hno fun _ => hne]; rfl⟩, rfl⟩
  ·exact ⟨⟨i, by rw [hno fun h9 => by omega]; rfl⟩, rfl⟩
theorem plus9_calls {h : Heap} {a b : Int} (ha : In64 a) (hb : In64 b) : CallsH Tryz.prog 165 [.int .i64 a, .int .i64 b] h (Out9 (fun r h' => okSum a b ∧ r = .int .i64 (a + b) ∧ h' = h) (fun why h' => ¬ okSum a b ∧ why = wOver ∧ h' = h)) := by
 obtain ⟨a0, a1⟩ := ha
 obtain ⟨b0, b1⟩ := hb
 unfold okSum
 have good : okSum a b → swp Tryz.prog (.seq (.ops f165r2) .ret) (retQ [.t 4] (Out9 (fun r h' => okSum a b ∧ r = .int .i64 (a + b) ∧ h' = h) (fun why h' => ¬ okSum a b ∧ why = wOver ∧ h' = h))) (mk [(0, .int .i64 a), (1, .int .i64 b)]) [] h := by
  intro hk
  obtain ⟨k0, k1⟩ := id hk
  refine Ai rfl (fun z hz => ?_)
  have hz : z = a + b := hz.trans (wrap_in (by omega) (by omega))
  subst hz
  exact ⟨hk, rfl, rfl⟩
 refine f165_calls (by simp) ?_
 refine Ai rfl (Ai (fun h1 => ?_) (fun h1 => ?_))
 ·refine Ai rfl (fun z hz => ?_)
  have hz : z = 9223372036854775807 - b := hz.trans (wrap_in (by omega) (by omega))
  subst hz
  refine Ai rfl (Ai (fun h2 => ?_) (fun h2 => ?_))
  ·refine must9_yes fun _ => ?_
   exact cut_at [(0, .int .i64 a), (1, .int .i64 b)] ⟨rfl, rfl, trivial⟩ (good ⟨by omega, by omega⟩)
  ·refine Ai rfl (Ai (fun h3 => absurd h3 (by omega)) (fun h3 => ?_))
   exact must9_no ⟨_, rfl, fun hk => by have := hk.2; omega, rfl, rfl⟩
 ·refine Ai rfl (Ai (fun h3 => ?_) (fun h3 => absurd (show b < 0 by omega) h3))
  refine Ai rfl (fun z hz => ?_)
  have hz : z = -9223372036854775808 - b := hz.trans (wrap_in (by omega) (by omega))
  subst hz
  refine Ai rfl (Ai (fun h2 => ?_) (fun h2 => ?_))
  ·refine must9_yes fun _ => ?_
   exact cut_at [(0, .int .i64 a), (1, .int .i64 b)] ⟨rfl, rfl, trivial⟩ (good ⟨by omega, by omega⟩)
  ·exact must9_no ⟨_, rfl, fun hk => by have := hk.1; omega, rfl, rfl⟩
section
variable {h0 h h1 h' : Heap} {ab kb sb mb c bs bt b1 b2 : Nat} {now : Int} {av lv pv lw rv fv : Value} {key s n : ByteArray} {t : Thing} {is : Bool} {A pre : List ByteArray} {L : List Eff} {M : List En} {T : List Nat} {p : ByteArray → Bool} {Z : Heap → Prop}
theorem thC (hE : (cE ab kb now av key t is pv lw rv lv L).at h) : SL encP h pv t.pairs ∧ SL encS h lw t.list ∧ SL encR h rv t.ranks := by
 obtain ⟨_, _, hT, _⟩ := hE
 obtain ⟨p, l, r, e, h1, h2, h3⟩ := hT
 simp only [cellsT, List.cons.injEq, and_true, true_and] at e
 obtain ⟨rfl, rfl, rfl⟩ := e
 exact ⟨h1, h2, h3⟩
theorem fieldD1_calls {b : Nat} (B : Blk h b [.string n]) (x : Pair) : CallsH Tryz.prog 230 [.agg ⟨encP x⟩, ptr b] h (Ret fun u h' => u = .bool (decide (x.name = n)) ∧ Chg [] h h') := by
 refine f230_calls (by simp) ?_
 intro b2 h1 g1
 refine Ei _ (Ai (cell_blk g1.blk rfl) (Ei _ (Ai (cell_blk (B.chg g1.chg (by simp)) rfl) ?_)))
 refine Ai (fun he => ?_) (fun hne => ?_)
 ·exact ⟨by rw [decide_eq_true (show x.name = n from he)]; rfl, g1.chg⟩
 ·exact ⟨by rw [decide_eq_false (show ¬ x.name = n from hne)]; rfl, g1.chg⟩
theorem find_at {l : List Pair} {k : Nat} (hk : k < l.length) (hp : decide (l[k].name = n) = true) (hn : ∀ x ∈ l.take k, decide (x.name = n) = false) : fieldF l n = some l[k].text := by
 unfold fieldF
 have e : l = l.take k ++ l[k] :: l.drop (k + 1) := by rw [← List.drop_eq_getElem_cons hk, List.take_append_drop]
 have hf : l.find? (fun p => decide (p.name = n)) = some l[k] := by
  rw [List.find?_eq_some_iff_append]
  exact ⟨hp, l.take k, l.drop (k + 1), e, fun x hx => by rw [hn x hx]; rfl⟩
 rw [hf]; rfl
theorem find_no9 {l : List Pair} (hn : ∀ x ∈ l, decide (x.name = n) = false) : fieldF l n = none := by
 unfold fieldF
 rw [List.find?_eq_none.2 fun x hx => by rw [hn x hx]; simp]; rfl
theorem field9_calls (hE : (cE ab kb now av key t is pv lw rv lv L).at h) (hl : t.pairs.length < 4611686018427387904) :
  CallsH Tryz.prog 154 [ptr ab, .string n] h (Ret fun r h' => r = .tuple #[.string ((fieldF t.pairs n).getD noText), .bool (fieldF t.pairs n).isSome] ∧ Chg [] h h') := by
 have sp := (thC hE).1
 obtain ⟨pa, pc, rfl, _⟩ := sp.form
 refine f154_calls (by simp) ?_
 intro b3 h1 g1
 refine Ei _ (Ai (cell_blk (hE.1.chg g1.chg (by simp)) rfl) ?_)
 refine call_ret (ixfP_calls (g := 230) (cap := [ptr b3]) (p := fun x => decide (x.name = n)) (sp.ext g1.chg) hl fun h' x hc => fieldD1_calls (g1.blk.chg hc (by simp)) x) ?_
 rintro r h2 ⟨hr, c2⟩
 have c02 := g1.chg.nil c2
 rcases hr with ⟨k, hk, rfl, hp, hn⟩ | ⟨rfl, hn⟩
 ·rw [find_at hk hp hn]
  refine Ai rfl (Ai (fun h9 => absurd h9 (by omega)) (fun _ => ?_))
  refine Ei _ (Ai (cell_blk (hE.1.chg c02 (by simp)) rfl) ?_)
  have sp2 := sp.ext c02
  obtain ⟨b, o, rfl⟩ := sp2.addr (by omega)
  have hcs := sp2.cells encP_len (i := k) (x := t.pairs[k]) (by simp [hk])
  refine Ai (by omega) (Ai (by omega) (Ei _ (Ai (hcs 1 _ rfl) ?_)))
  exact ⟨rfl, c02⟩
 ·rw [find_no9 hn]
  refine Ai rfl (Ai (fun _ => ?_) (fun h9 => absurd (by decide) h9))
  exact ⟨rfl, c02⟩
theorem member9_calls (hE : (cE ab kb now av key t is pv lw rv lv L).at h) (hl : t.list.length < 4611686018427387904) (hs : t.list.Pairwise fun a b => sless a b = true) :
  CallsH Tryz.prog 172 [ptr ab, .string n] h (Ret fun r h' => r = .bool (thereL t.list n) ∧ Chg [] h h') := by
 have sp := (thC hE).2.1
 obtain ⟨pa, pc, rfl, _⟩ := sp.form
 refine f172_calls (by simp) ?_
 refine Ei _ (Ai (cell_blk hE.1 rfl) ?_)
 refine call_ret (bsO_calls sp hl hs) ?_
 rintro r h2 ⟨⟨k, rfl⟩, e⟩
 have e := e.symm
 subst e
 exact ⟨rfl, Chg.refl _⟩
def TC (ab kb : Nat) (now : Int) (av : Value) (t : Thing) (is : Bool) (pv lw rv : Value) (Z : Heap → Prop) (fv : Value) (p : ByteArray → Bool) : Prop :=
 ∃ g fi cap, fv = .func (.func g) fi cap ∧ ∀ {h : Heap} {s key : ByteArray} {lv : Value} {L : List Eff}, (cE ab kb now av key t is pv lw rv lv L).at h → Z h → CallsH Tryz.prog g (fi.toList ++ [.string s] ++ cap.toList) h (Ret fun u h' => u = .bool (p s) ∧ Chg [] h h')
theorem tc_hset (hl : t.pairs.length < 4611686018427387904) : TC ab kb now av t is pv lw rv (fun h => Blk h b1 [ptr ab]) (.func (.func 153) #[] #[ptr b1]) (thereH t.pairs) :=
 ⟨_, _, _, rfl, fun {h s key lv L} hE hZ => by
  refine f153_calls (by simp) ?_
  refine Ei _ (Ai (cell_blk hZ rfl) ?_)
  refine call_ret (field9_calls hE hl) ?_
  rintro _ h2 ⟨rfl, c2⟩
  exact ⟨rfl, c2⟩⟩
theorem tc_hdel (hl : t.pairs.length < 4611686018427387904) : TC ab kb now av t is pv lw rv (fun h => Blk h b1 [ptr ab]) (.func (.func 160) #[] #[ptr b1]) (thereH t.pairs) :=
 ⟨_, _, _, rfl, fun {h s key lv L} hE hZ => by
  refine f160_calls (by simp) ?_
  refine Ei _ (Ai (cell_blk hZ rfl) ?_)
  refine call_ret (field9_calls hE hl) ?_
  rintro _ h2 ⟨rfl, c2⟩
  exact ⟨rfl, c2⟩⟩
theorem tc_member (hl : t.list.length < 4611686018427387904) (hs : t.list.Pairwise fun a b => sless a b = true) : TC ab kb now av t is pv lw rv (fun _ => True) (.func (.func 172) #[ptr ab] #[]) (thereL t.list) :=
 ⟨_, _, _, rfl, fun {h s key lv L} hE _ => member9_calls hE hl hs⟩
def frE (bs mb bt : Nat) (fv : Value) (pre : List ByteArray) : En :=
 .x [bs, mb, bt] (fun h => Blk h bs [.map (some mb)] ∧ (∃ es c, MapB h mb es c ∧ CM es pre) ∧ Blk h bt [fv] ∧ bs ≠ mb ∧ bt ≠ mb)
  (fun _ _ _ hc hn ⟨h1, ⟨es, c, h2, h3⟩, h4, h5, h6⟩ => ⟨h1.chg hc (hn _ (by simp)), ⟨es, c, h2.chg hc (hn _ (by simp)), h3⟩, h4.chg hc (hn _ (by simp)), h5, h6⟩)
  (fun _ ⟨h1, ⟨_, _, h2, _⟩, h4, _⟩ b hb => by
   simp at hb
   rcases hb with rfl | rfl | rfl
   ·exact h1.lt
   ·exact h2.lt
   ·exact h4.lt)
theorem fresh9_calls {f : Fn} {fi cap : Array Value} : CallsH Tryz.prog 152 [.func f fi cap] h (Ret fun r h' => (∃ bs mb bt, r = .func (.func 228) #[] #[ptr bs, ptr bt] ∧ (frE bs mb bt (.func f fi cap) []).at h' ∧ ∀ b ∈ [bs, mb, bt], h.size ≤ b) ∧ Chg [] h h') := by
 refine f152_calls (by simp) ?_
 intro bt h1 g1
 have w := (St.start h).new g1
 intro mb h2 g2
 have w := w.newm g2
 intro bs h3 g3
 have w := w.new g3
 refine w.st1 0 rfl rfl rfl rfl fun h4 w => ?_
 have n1 := g1.id; have n2 := g2.id; have n3 := g3.id
 have z1 := g1.size; have z2 := g2.size; have z3 := g3.size
 refine ⟨⟨bs, mb, bt, rfl, ⟨w.get 0 rfl, ⟨[], 0, w.get 1 rfl, CM.nil⟩, w.get 2 rfl, by omega, by omega⟩, fun b hb => ?_⟩, w.chg⟩
 simp at hb
 rcases hb with rfl | rfl | rfl <;> omega
theorem _root_.Go.Sx.St.fresh {K : Value → Heap → Prop} {Qp : List PanicEntry → Heap → Prop} (w : St T h0 h M) (i j : Nat) (hi : M[i]? = some (frE bs mb bt fv pre)) (hj : M[j]? = some (cE ab kb now av key t is pv lw rv lv L)) (hij : i ≠ j)
  (tc : TC ab kb now av t is pv lw rv Z fv p) (hZ : ∀ h', Chg [mb] h h' → Z h') (hpre : pre.length < 4611686018427387904)
  (k : ∀ h', St T h0 h' (M.set i (frE bs mb bt fv (pre ++ [s]))) → K (.bool (!p s && decide (s ∉ pre))) h') : CallsH Tryz.prog 228 [.string s, ptr bs, ptr bt] h (after K Qp) := by
 obtain ⟨B1, ⟨es, c, hM, cm⟩, B2, n1, n2⟩ := w.get i hi
 have hE := w.get j hj
 have hap : mb ∉ (cE ab kb now av key t is pv lw rv lv L).fp := w.apart i j _ _ hi hj hij mb (by simp [frE, En.fp])
 have hcl : cntB s pre ≤ pre.length := cntB_le
 have main : CallsH Tryz.prog 228 [.string s, ptr bs, ptr bt] h (Ret fun u h' => u = .bool (!p s && decide (s ∉ pre)) ∧ (frE bs mb bt fv (pre ++ [s])).at h' ∧ Chg [mb] h h') := by
  obtain ⟨g, fi, cap, rfl, hg⟩ := tc
  refine f228_calls (by simp) ?_
  refine Ei _ (Ai (cell_blk B1 rfl) ?_)
  -- behind the map's turn
  have rest : ∀ {h4 : Heap} {es' : List MapEntry} {c' : Nat}, PutO h h4 mb (.map ⟨es'⟩ c') → CM es' (pre ++ [s]) →
    swp Tryz.prog (.seq (.ops f228r2) .ret) (retQ [.t 4] (Ret fun u h' => u = .bool (!p s && decide (s ∉ pre)) ∧ (frE bs mb bt (.func (.func g) fi cap) (pre ++ [s])).at h' ∧ Chg [mb] h h')) (mk [(0, .string s), (1, ptr bs), (2, ptr bt)]) [] h4 := fun {h4 es' c'} p4 cm' => by
   have c4 : Chg [mb] h h4 := p4.chg
   have M4 : MapB h4 mb es' c' := p4.blk
   have B14 := B1.chg c4 (by simp [n1])
   have B24 := B2.chg c4 (by simp [n2])
   have hfr : ∀ {h5}, Chg [] h4 h5 → (frE bs mb bt (.func (.func g) fi cap) (pre ++ [s])).at h5 := fun c5 => ⟨B14.chg c5 (by simp), ⟨es', c', M4.chg c5 (by simp), cm'⟩, B24.chg c5 (by simp), n1, n2⟩
   obtain ⟨j2, e2⟩ := cm'.hit
   refine Ei _ (Ai (cell_blk B14 rfl) ?_)
   refine Ai rfl (Ei es' (Ei c' (Ai M4 (Ai cm'.fits ?_))))
   rw [e2]
   refine Ai rfl (Ai (fun h1 => ?_) (fun h1 => ?_))
   ·have hc0 : cntB s pre = 0 := by omega
    have hno : s ∉ pre := fun hm => by have := cntB_pos hm; omega
    refine Ei _ (Ai (cell_blk B24 rfl) ?_)
    have hE4 : (cE ab kb now av key t is pv lw rv lv L).at h4 := En.chg hE c4 (fun b hb hm => by simp at hm; subst hm; exact hap hb)
    refine call_ret (hg hE4 (hZ h4 c4)) ?_
    rintro _ h5 ⟨rfl, c5⟩
    refine ⟨?_, hfr c5, c4.trans c5 (by simp) (by simp)⟩
    rw [decide_eq_true hno, Bool.and_true]
    rfl
   ·have hin : s ∈ pre := by
     rcases Decidable.em (s ∈ pre) with h9 | h9
     ·exact h9
     ·exact absurd (by rw [cntB_zero h9]; rfl) h1
    refine ⟨?_, hfr (Chg.refl _), c4⟩
    rw [decide_eq_false (fun h9 => h9 hin), Bool.and_false]
    rfl
  rcases cm.cnt s with ⟨e1, hn⟩ | ⟨j1, e1, hm⟩
  ·refine Ai rfl (Ei es (Ei c (Ai hM (Ai cm.fits ?_))))
   rw [e1]
   refine Ai rfl (fun z hz => ?_)
   have hz : z = 1 := by have := add_in hz (by omega) (by omega); omega
   subst hz
   refine Ai rfl (Ei es (Ei c (Ai hM (Ai cm.fits ?_))))
   rw [e1]
   intro h4 p4
   exact cut_at [(0, .string s), (1, ptr bs), (2, ptr bt)] ⟨rfl, rfl, rfl, trivial⟩ (rest p4 (cm.put0 (c := c) e1 hn rfl))
  ·refine Ai rfl (Ei es (Ei c (Ai hM (Ai cm.fits ?_))))
   rw [e1]
   refine Ai rfl (fun z hz => ?_)
   have hz := add_in hz (by omega) (by omega)
   subst hz
   refine Ai rfl (Ei es (Ei c (Ai hM (Ai cm.fits ?_))))
   rw [e1]
   intro h4 p4
   exact cut_at [(0, .string s), (1, ptr bs), (2, ptr bt)] ⟨rfl, rfl, rfl, trivial⟩ (rest p4 (cm.put1 e1 rfl))
 refine call_ret main ?_
 rintro _ h2 ⟨rfl, hf, c2⟩
 exact k h2 (w.set i hi c2 (fun b hb => .inl (by simp at hb; simp [frE, En.fp, hb])) hf (fun b hb => .inl hb))
end
end Go.Proofs.YtjnijlnmbjjgpaaGreatDoor
namespace Go.Proofs.YtjnijlnmbjjgpaaGreatDoor
open Go Go.Sx C
theorem newL_app {th : ByteArray → Bool} : ∀ {a b pre : List ByteArray}, newL th pre (a ++ b) = newL th pre a ++ newL th (pre ++ a) b
 |[], b, pre => by simp [newL]
 |x :: a, b, pre => by
  have ih := newL_app (th := th) (a := a) (b := b) (pre := pre ++ [x])
  have e : pre ++ [x] ++ a = pre ++ x :: a := by simp
  rw [e] at ih
  simp only [List.cons_append, newL, ih, List.append_assoc]
theorem newL_snoc {th : ByteArray → Bool} {l : List ByteArray} {q : Nat} (hq : q < l.length) : newL th [] (l.take (q + 1)) = newL th [] (l.take q) ++ (if (!th l[q] && decide (l[q] ∉ l.take q)) = true then [l[q]] else []) := by
 rw [List.take_succ_eq_append_getElem hq, newL_app]
 simp [newL]
theorem newL_le {th : ByteArray → Bool} {l : List ByteArray} (q : Nat) : (newL th [] (l.take q)).length ≤ (newL th [] l).length := by
 have := newL_app (th := th) (a := l.take q) (b := l.drop q) (pre := [])
 rw [List.take_append_drop] at this
 rw [this, List.length_append]
 omega
theorem newL_len {th : ByteArray → Bool} : ∀ {l pre : List ByteArray}, (newL th pre l).length ≤ l.length
 |[], _ => Nat.le_refl _
 |x :: l, pre => by
  have := newL_len (th := th) (l := l) (pre := pre ++ [x])
  simp only [newL]
  split <;> simp <;> omega
theorem newL_cnt {th : ByteArray → Bool} {l : List ByteArray} {q : Nat} {b : Bool} (hq : q < l.length) (hb : b = (!th l[q] && decide (l[q] ∉ l.take q))) : (newL th [] (l.take (q + 1))).length = (newL th [] (l.take q)).length + (if b = true then 1 else 0) := by
 rw [newL_snoc hq, ← hb]
 cases b <;> simp
theorem twos_get : ∀ {q : Nat} {l : List ByteArray} (h : 2 * q + 1 < l.length), (twos l)[q]? = some (l[2 * q], l[2 * q + 1])
 |q, [], h => by simp at h
 |q, [a], h => by simp at h
 |0, a :: b :: l, _ => rfl
 |q + 1, a :: b :: l, h => by
  have := twos_get (q := q) (l := l) (by simp at h; omega)
  show (twos l)[q]? = _
  rw [this]
  rfl
theorem twos_half : ∀ {m : Nat} {l : List ByteArray}, l.length ≤ m → 2 * (twos l).length = 2 * (l.length / 2)
 |_, [], _ => rfl
 |_, [a], _ => by simp [twos]
 |0, a :: b :: l, hm => by simp at hm
 |m + 1, a :: b :: l, hm => by
  have := twos_half (m := m) (l := l) (by simp at hm; omega)
  show 2 * ((twos l).length + 1) = 2 * ((l.length + 2) / 2)
  omega
theorem twos_small : ∀ {m : Nat} {l : List ByteArray}, l.length ≤ m → l.length % 2 = 0 → (∀ p ∈ twos l, small p.1 = true ∧ small p.2 = true) → l.all small = true
 |_, [], _, _, _ => rfl
 |_, [a], _, h, _ => by simp at h
 |0, a :: b :: l, hm, _, _ => by simp at hm
 |m + 1, a :: b :: l, hm, h2, h => by
  have := twos_small (m := m) (l := l) (by simp at hm; omega) (by simp at h2; omega) fun p hp => h p (List.mem_cons_of_mem _ hp)
  obtain ⟨h3, h4⟩ := h (a, b) (List.mem_cons_self ..)
  simp only [List.all_cons, this, h3, h4, Bool.and_self]
theorem small_of9 {l : List ByteArray} {x : ByteArray} (h : l.all small = true) (hx : x ∈ l) : x.size ≤ 1048576 := of_decide_eq_true (List.all_eq_true.1 h x hx)
theorem mv1 {P : Program} {F : List PanicEntry → Heap → Prop} {K : Env → Heap → Prop} {x : Operand} {d : Nat} {l : List SOper} {σ : Env} {h : Heap} {v : Value} (he : ev σ x = some v) (hs : sops P F K l (upd σ (some d) v) h) : sops P F K (⟨some d, none, .mv x⟩ :: l) σ h := by
 simp only [sops, sopr, sop, he]
 exact hs
theorem ext1 {P : Program} {F : List PanicEntry → Heap → Prop} {K : Env → Heap → Prop} {x : Operand} {d i : Nat} {l : List SOper} {σ : Env} {h : Heap} {vs : Array Value} {v : Value} (he : ev σ x = some (.tuple vs)) (hi : vs.toList[i]? = some v) (hs : sops P F K l (upd σ (some d) v) h) : sops P F K (⟨some d, none, .ext x i⟩ :: l) σ h := by
 simp only [sops, sopr, sop, he, hi]
 exact hs
theorem mv_two9 {P : Program} {F : List PanicEntry → Heap → Prop} {x y : Operand} {d e : Nat} {c : SCode} {Q : Post} {σ : Env} {ds : List Deferred} {h : Heap} {v u : Value} (he : ev σ x = some v) (hf : ev (upd σ (some d) v) y = some u) (hs : swp P c Q (upd (upd σ (some d) v) (some e) u) ds h) :
  sops P F (fun σ' h' => thenQ (swp P c Q) Q .normal σ' ds h') [⟨some d, none, .mv x⟩, ⟨some e, none, .mv y⟩] σ h := by
 simp only [sops, sopr, sop, he, hf]
 exact hs
section
variable {h0 h h1 h2 h' : Heap} {ab kb sb mb c b1 b2 bs bt mb2 : Nat} {now op kd : Int} {av lv pv lw rv fv v : Value} {key why : ByteArray} {t : Thing} {is : Bool} {A l pre : List ByteArray} {L : List Eff} {m : List KI} {S : Space} {M : List En} {T : List Nat} {res : Res} {th : ByteArray → Bool} {Z : Heap → Prop}
theorem cons_of {n : Int} (hn : 1 ≤ n) (hb : n ≤ A.length) : ∃ k0 l, A = k0 :: l := by
 cases A with
 |nil => simp at hb; omega
 |cons k0 l => exact ⟨k0, l, rfl⟩
theorem fr_box (w : St T h0 h M) (i j : Nat) (hi : M[i]? = some (frE bs mb2 bt fv pre)) (hj : M[j]? = some (.b b1 [v])) (hij : i ≠ j) : ∀ h', Chg [mb2] h h' → Blk h' b1 [v] := fun h' c =>
 Blk.chg (w.get j hj) c fun hm => w.apart i j _ _ hi hj hij mb2 (by simp [frE, En.fp]) (by simp at hm; simp [En.fp, hm])
set_option maxHeartbeats 2000000 in
theorem hset9 (p : P9 h0 kb sb mb c m S av A) (hs9 : S9 S) (hA : ∀ a ∈ A, a.size < 281474976710656) (x : As h0 h (c0 ab kb now av)) : CallsH Tryz.prog 81 [ptr ab] h (Cmd9 h0 h ab kb now av (cHset S now A)) := by
 refine f81_calls (by simp) ?_
 intro b1 h1 g1
 have w := x.st.new g1
 intro b2 h2 g2
 have w := w.new g2
 refine w.ld1 1 rfl rfl ?_
 refine sub9_go (i := 2) x w rfl (fun x => many9_calls p (by decide) x) ?_ ?_
 rotate_left
 ·rintro why h3 ⟨hB, rfl⟩ c3
  refine bad9 ?_ c3
  cases A with
  |nil => rfl
  |cons k0 l => exact if_neg fun hh => hB ⟨by simp; omega, by simp; omega⟩
 rintro _ h3 _ ⟨hb, k0, hk0, rfl⟩ w
 obtain ⟨k9, l, rfl⟩ := cons_of (by decide) hb.1
 cases hk0
 obtain ⟨ba, oa, ac, rfl⟩ := p.argF (by simp)
 refine w.ld1 1 rfl rfl ?_
 refine w.ldc 2 rfl rfl ?_
 refine Ai rfl (Ai (by decide) (fun z hz => ?_))
 have hz : z = (((k0 :: l).length % 2 : Nat) : Int) := by rw [hz]; exact (Int.ofNat_tmod (k0 :: l).length 2).symm
 subst hz
 have hlc : (k0 :: l).length = l.length + 1 := rfl
 refine Ai rfl (Ai (fun hodd => ?_) (fun hev => must9_no (bad9 (if_neg fun hh => hev (by omega)) w.chg)))
 refine must9_yes fun _ => ?_
 have hc9 : 2 ≤ l.length ∧ l.length < 65536 ∧ l.length % 2 = 0 := ⟨by omega, by omega, by omega⟩
 have hc0 : ∀ (f : Thing → Res), kindly S now 2 k0 f = .error wType → (if 2 ≤ l.length ∧ l.length < 65536 ∧ l.length % 2 = 0 then kindly S now 2 k0 f else .error wArgs) = .error wType := fun f hf => (if_pos hc9).trans hf
 refine w.ld1 1 rfl rfl ?_
 refine sub9_go (i := 2) x w rfl (fun x => of9_calls p x) ?_ ?_
 rotate_left
 ·rintro why h4 ⟨hB, rfl⟩ c4
  exact bad9 (hc0 _ (kindly_no hB)) c4
 rintro _ h4 _ ⟨hk, p2, w2, r2, rfl⟩ w
 have htl := (hs9.get k0 now).ps
 have hk9 := hA k0 (by simp)
 have he : cHset S now (k0 :: l) = _ := (if_pos hc9).trans (kindly_ok hk)
 generalize (getS S k0 now).getD zeroT = t at *
 obtain ⟨pa, pc, rfl, _⟩ := (w.thc 2 rfl).1.form
 obtain ⟨names, hnames⟩ : ∃ names, names = (twos l).map Prod.fst := ⟨_, rfl⟩
 obtain ⟨D, hDe⟩ : ∃ D, D = (twos l).map fun p => hashE k0 p.1 p.2 := ⟨_, rfl⟩
 have he : cHset S now (k0 :: l) = makes S now k0 (t.pairs.length + (newL (thereH t.pairs) [] names).length) (l.all small) (numR (newL (thereH t.pairs) [] names).length) D := by rw [he, hnames, hDe]
 have hhalf := twos_half (Nat.le_refl l.length)
 have hnl : names.length = (twos l).length := by rw [hnames]; exact List.length_map _
 have hDl : D.length = (twos l).length := by rw [hDe]; exact List.length_map _
 have hD9 : D ≠ [] := fun e => by rw [e] at hDl; simp at hDl; omega
 have hnle := fun q => newL_le (th := thereH t.pairs) (l := names) q
 refine call_ret fresh9_calls ?_
 rintro _ h5 ⟨⟨bs, mb2, bt, rfl, hf, hfb⟩, c5⟩
 have w := w.add (e := frE bs mb2 bt (.func (.func 153) #[] #[ptr b1]) []) c5 hf (fun b hb => hfb b (by simpa [frE, En.fp] using hb))
 refine loop_intro (fun q : Nat × Nat × Value => [(1, ptr b1), (2, ptr b2), (3, .int .i64 q.2.1), (4, .func (.func 228) #[] #[ptr bs, ptr bt]), (5, .int .i64 (2 * q.1 + 1 : Nat))])
  (fun q h' => (2 * q.1 ≤ l.length ∧ q.2.1 = (newL (thereH t.pairs) [] (names.take q.1)).length ∧ (0 < q.1 → ((t.pairs.length : Int) + q.2.1 ≤ 65536 ∧ k0.size ≤ 1048576)) ∧ ∀ p ∈ (twos l).take q.1, small p.1 = true ∧ small p.2 = true) ∧
   St (c0 ab kb now (.slice (some ⟨ba, oa, none⟩) (k0 :: l).length ac)).fp h h' [frE bs mb2 bt (.func (.func 153) #[] #[ptr b1]) (names.take q.1), .b b2 [.int .i64 0, .int .i64 0, .string ⟨#[]⟩, .slice none 0 0], .b b1 [ptr ab],
    cE ab kb now (.slice (some ⟨ba, oa, none⟩) (k0 :: l).length ac) k0 t (getS S k0 now).isSome (.slice pa t.pairs.length pc) w2 r2 q.2.2 (accE S k0 now D q.1)])
  (fun q => l.length - 2 * q.1) (0, 0, nilV) ⟨rfl, rfl, rfl, rfl, rfl, trivial⟩ ⟨⟨Nat.zero_le _, rfl, fun h9 => absurd h9 (by simp), by simp⟩, w⟩ ?_
 rintro ⟨q, n, lv⟩ h6 ⟨⟨hq, hn0, hfits, hsm⟩, w⟩
 replace hq : 2 * q ≤ l.length := hq
 replace hn0 : n = (newL (thereH t.pairs) [] (names.take q)).length := hn0
 replace hfits : 0 < q → ((t.pairs.length : Int) + n ≤ 65536 ∧ k0.size ≤ 1048576) := hfits
 replace hsm : ∀ p ∈ (twos l).take q, small p.1 = true ∧ small p.2 = true := hsm
 have hnq : n ≤ q := by
  have h1 := newL_len (th := thereH t.pairs) (l := names.take q) (pre := [])
  rw [List.length_take] at h1
  omega
 refine w.ld1 2 rfl rfl ?_
 refine w.ldc 3 rfl rfl ?_
 refine Ai rfl (Ai (fun hlt => ?_) (fun hge => ?_))
 ·have hlt1 : 2 * q + 1 < l.length := by omega
  have htg := twos_get hlt1
  have hq2 : q < (twos l).length := by omega
  obtain ⟨nm, hnm⟩ : ∃ nm, nm = l[2 * q] := ⟨_, rfl⟩
  obtain ⟨tx, htx⟩ : ∃ tx, tx = l[2 * q + 1] := ⟨_, rfl⟩
  rw [← hnm, ← htx] at htg
  have hn1 : nm ∈ l := by rw [hnm]; exact List.getElem_mem _
  have ht1 : tx ∈ l := by rw [htx]; exact List.getElem_mem _
  have hn : (k0 :: l)[2 * q + 1]? = some nm := by rw [hnm]; simp
  have ht : (k0 :: l)[2 * q + 2]? = some tx := by rw [htx]; simp
  clear hnm htx
  have hz1 := hA nm (by simp [hn1])
  have hz2 := hA tx (by simp [ht1])
  have hD : ∀ q' (_ : q' < (twos l).length), q' = q → D[q']? = some { (⟨5, noText, nm, tx, 0⟩ : Eff) with key := k0 } := fun q' _ e => by subst e; rw [hDe, List.getElem?_map, htg]; rfl
  have hD : ∀ q' (_ : q' < (twos l).length), D[q]? = some { (⟨5, noText, nm, tx, 0⟩ : Eff) with key := k0 } := fun _ _ => hD q hq2 rfl
  have hal := acc_len (S := S) (key := k0) (now := now) D q (by omega)
  have htk : (twos l).take (q + 1) = (twos l).take q ++ [(nm, tx)] := by
   rw [List.take_succ_eq_append_getElem hq2]
   have := (List.getElem?_eq_some_iff.1 htg).2
   rw [this]
  have hqn : q < names.length := by omega
  have hnq9 : names[q] = nm := by
   have : names[q]? = some nm := by rw [hnames, List.getElem?_map, htg]; rfl
   exact (List.getElem?_eq_some_iff.1 this).2
  have htk2 : names.take (q + 1) = names.take q ++ [nm] := by rw [List.take_succ_eq_append_getElem hqn, hnq9]
  refine w.ld1 2 rfl rfl ?_
  refine w.ldc 3 rfl rfl ?_
  refine p.ix (x.base w) (2 * q + 1) rfl hn ?_
  refine w.fresh 0 3 rfl rfl (by decide) (tc_hset (by omega)) (fr_box w 0 2 rfl rfl (by decide)) (by rw [List.length_take]; omega) fun h7 w => ?_
  obtain ⟨bb, hbb⟩ : ∃ bb, bb = (!thereH t.pairs nm && decide (nm ∉ names.take q)) := ⟨_, rfl⟩
  have hcnt := newL_cnt (th := thereH t.pairs) hqn (b := bb) (by rw [hnq9]; exact hbb)
  have hcl := hnle (q + 1)
  rw [← hbb]
  cases bb with
  |true =>
   have hcnt : (newL (thereH t.pairs) [] (names.take (q + 1))).length = n + 1 := by rw [hcnt, hn0]; rfl
   refine Ai rfl (fun z hz => ?_)
   have hz := add_in hz (by simp only; omega) (by simp only; omega)
   subst hz
   refine w.ld1 2 rfl rfl ?_
   refine w.ld1 2 rfl rfl ?_
   refine w.ldc 3 rfl rfl ?_
   refine p.ix (x.base w) (2 * q + 1) rfl hn ?_
   refine w.ld1 2 rfl rfl ?_
   refine w.ldc 3 rfl rfl ?_
   refine Ai rfl (fun z hz => ?_)
   have hz := add_in hz (by simp only; omega) (by simp only; omega)
   subst hz
   refine p.ix (x.base w) (2 * q + 2) rfl ht ?_
   refine w.ld1 2 rfl rfl ?_
   refine w.ldc 3 rfl rfl ?_
   refine Ai rfl (fun z hz => ?_)
   have hz : z = (t.pairs.length : Int) + (n + 1 : Nat) := hz.trans (wrap_in (by simp only; omega) (by simp only; omega))
   subst hz
   refine sub9_go (i := 3) x w rfl (fun x => put9_calls p ⟨5, noText, nm, tx, 0⟩ x (by simp only; omega) (by omega) (by show nm.size < _; omega) (by show tx.size < _; omega)) ?_ ?_
   rotate_left
   ·rintro why h5 ⟨hB, rfl⟩ c5
    refine bad9 (he.trans (mkNo9 ?_)) c5
    rintro ⟨m1, m2, m3⟩
    exact hB ⟨by omega, m2, small_of9 m3 hn1, small_of9 m3 ht1⟩
   rintro _ h5 _ ⟨hfit, lv5, rfl⟩ w
   rw [acc_put (hD q hq2)] at w
   refine Ai rfl (fun z hz => ?_)
   have hz := add_in hz (by simp only; omega) (by simp only; omega)
   subst hz
   refine Ai rfl (Ei (q + 1, n + 1, lv5) (Ai ⟨rfl, rfl, rfl, rfl, rfl, trivial⟩ (Ai ⟨⟨by omega, by rw [hcnt], fun _ => ⟨?_, hfit.2.1⟩, ?_⟩, ?_⟩ (by simp only; omega))))
   ·have := hfit.1
    push_cast at this ⊢
    omega
   ·intro pr hpr
    rw [htk, List.mem_append] at hpr
    rcases hpr with hpr | hpr
    ·exact hsm pr hpr
    ·rw [List.mem_singleton.1 hpr]
     exact ⟨decide_eq_true hfit.2.2.1, decide_eq_true hfit.2.2.2⟩
   ·rw [htk2]; exact w
  |false =>
   have hcnt : (newL (thereH t.pairs) [] (names.take (q + 1))).length = n := by rw [hcnt, hn0]; rfl
   refine w.ld1 2 rfl rfl ?_
   refine w.ld1 2 rfl rfl ?_
   refine w.ldc 3 rfl rfl ?_
   refine p.ix (x.base w) (2 * q + 1) rfl hn ?_
   refine w.ld1 2 rfl rfl ?_
   refine w.ldc 3 rfl rfl ?_
   refine Ai rfl (fun z hz => ?_)
   have hz := add_in hz (by simp only; omega) (by simp only; omega)
   subst hz
   refine p.ix (x.base w) (2 * q + 2) rfl ht ?_
   refine w.ld1 2 rfl rfl ?_
   refine w.ldc 3 rfl rfl ?_
   refine Ai rfl (fun z hz => ?_)
   have hz : z = (t.pairs.length : Int) + (n : Nat) := hz.trans (wrap_in (by simp only; omega) (by simp only; omega))
   subst hz
   refine sub9_go (i := 3) x w rfl (fun x => put9_calls p ⟨5, noText, nm, tx, 0⟩ x (by simp only; omega) (by omega) (by show nm.size < _; omega) (by show tx.size < _; omega)) ?_ ?_
   rotate_left
   ·rintro why h5 ⟨hB, rfl⟩ c5
    refine bad9 (he.trans (mkNo9 ?_)) c5
    rintro ⟨m1, m2, m3⟩
    exact hB ⟨by omega, m2, small_of9 m3 hn1, small_of9 m3 ht1⟩
   rintro _ h5 _ ⟨hfit, lv5, rfl⟩ w
   rw [acc_put (hD q hq2)] at w
   refine Ai rfl (fun z hz => ?_)
   have hz := add_in hz (by simp only; omega) (by simp only; omega)
   subst hz
   refine Ai rfl (Ei (q + 1, n, lv5) (Ai ⟨rfl, rfl, rfl, rfl, rfl, trivial⟩ (Ai ⟨⟨by omega, by rw [hcnt], fun _ => ⟨?_, hfit.2.1⟩, ?_⟩, ?_⟩ (by simp only; omega))))
   ·have := hfit.1
    push_cast at this ⊢
    omega
   ·intro pr hpr
    rw [htk, List.mem_append] at hpr
    rcases hpr with hpr | hpr
    ·exact hsm pr hpr
    ·rw [List.mem_singleton.1 hpr]
     exact ⟨decide_eq_true hfit.2.2.1, decide_eq_true hfit.2.2.2⟩
   ·rw [htk2]; exact w
 ·have hql : 2 * q = l.length := by omega
  have hqt : q = (twos l).length := by omega
  have hnf : n = (newL (thereH t.pairs) [] names).length := by rw [hn0, List.take_of_length_le (by omega)]
  refine w.callv number9_calls fun h7 w => ?_
  refine w.st1 1 rfl rfl rfl rfl fun h8 w => ?_
  refine fin9 x w 1 3 rfl rfl ?_
  rw [he, mkOk9 ⟨by have := (hfits (by omega)).1; omega, (hfits (by omega)).2, twos_small (Nat.le_refl _) hc9.2.2 fun pr hpr => hsm pr (by rw [hqt, List.take_length]; exact hpr)⟩, hqt, ← hDl, acc_all hD9, hnf]
  rfl
theorem hget9 (p : P9 h0 kb sb mb c m S av A) (hs9 : S9 S) (x : As h0 h (c0 ab kb now av)) : CallsH Tryz.prog 82 [ptr ab] h (Cmd9 h0 h ab kb now av (cHget S now A)) := by
 refine f82_calls (by simp) ?_
 intro b2 h1 g1
 have w := x.st.new g1
 refine sub9_go (i := 1) x w rfl (fun x => begin9_calls p (by decide) x) ?_ ?_
 rotate_left
 ·rintro why h2 hB c2
  exact bad9 (NoB.a2 (f := fun _ n t => match fieldF t.pairs n with
   |some s => .ok (textR s, [])
   |none => .ok (nilR, [])) hB) c2
 rintro _ h2 _ ⟨hb, k0, hk0, hk, p2, w2, r2, rfl⟩ w
 obtain ⟨k9, n, rfl⟩ := two_arg hb
 cases hk0
 have he : cHget S now [k0, n] = _ := (show cHget S now [k0, n] = kindly S now 2 k0 (fun t => match fieldF t.pairs n with
   |some s => .ok (textR s, [])
   |none => .ok (nilR, [])) from rfl).trans (kindly_ok hk)
 have htl := (hs9.get k0 now).ps
 generalize (getS S k0 now).getD zeroT = t at *
 obtain ⟨b, o, cc, rfl⟩ := p.argF (by simp)
 refine w.ldc 1 rfl rfl ?_
 refine p.ix (x.base w) 1 rfl rfl ?_
 refine w.callv (field9_calls (w.get 1 rfl) (by omega)) fun h3 w => ?_
 generalize fieldF t.pairs n = fo at he ⊢
 cases fo with
 |none =>
  refine w.st1 0 rfl rfl rfl rfl fun h4 w => ?_
  exact fin9 x w 0 1 rfl rfl he
 |some s =>
  refine w.callv text9_calls fun h4 w => ?_
  refine w.st1 0 rfl rfl rfl rfl fun h5 w => ?_
  exact fin9 x w 0 1 rfl rfl he
theorem hlen9 (p : P9 h0 kb sb mb c m S av A) (x : As h0 h (c0 ab kb now av)) : CallsH Tryz.prog 84 [ptr ab] h (Cmd9 h0 h ab kb now av (cHlen S now A)) := by
 refine f84_calls (by simp) ?_
 intro b2 h1 g1
 have w := x.st.new g1
 refine sub9_go (i := 1) x w rfl (fun x => begin9_calls p (by decide) x) ?_ ?_
 rotate_left
 ·rintro why h2 hB c2
  exact bad9 (NoB.a1 (f := fun _ t => .ok (numR t.pairs.length, [])) hB) c2
 rintro _ h2 _ ⟨hb, k0, hk0, hk, p2, w2, r2, rfl⟩ w
 obtain ⟨k9, rfl⟩ := one_arg hb
 cases hk0
 obtain ⟨la, lc, rfl, _⟩ := (w.thc 1 rfl).1.form
 refine w.ldc 1 rfl rfl ?_
 refine w.callv number9_calls fun h3 w => ?_
 refine w.st1 0 rfl rfl rfl rfl fun h4 w => ?_
 have he : cHlen S now [k0] = _ := (show cHlen S now [k0] = kindly S now 2 k0 (fun t => .ok (numR t.pairs.length, [])) from rfl).trans (kindly_ok hk)
 exact fin9 x w 0 1 rfl rfl he
theorem hall9 (p : P9 h0 kb sb mb c m S av A) (hs9 : S9 S) (x : As h0 h (c0 ab kb now av)) : CallsH Tryz.prog 85 [ptr ab] h (Cmd9 h0 h ab kb now av (cHall S now A)) := by
 refine f85_calls (by simp) ?_
 intro b2 h1 g1
 have w := x.st.new g1
 refine sub9_go (i := 1) x w rfl (fun x => begin9_calls p (by decide) x) ?_ ?_
 rotate_left
 ·rintro why h2 hB c2
  exact bad9 (NoB.a1 (f := fun _ t => .ok (listR (t.pairs.flatMap fun p : Pair => [p.name, p.text]), [])) hB) c2
 rintro _ h2 _ ⟨hb, k0, hk0, hk, p2, w2, r2, rfl⟩ w
 obtain ⟨k9, rfl⟩ := one_arg hb
 cases hk0
 have htl := (hs9.get k0 now).ps
 have he : cHall S now [k0] = _ := (show cHall S now [k0] = kindly S now 2 k0 (fun t => .ok (listR (t.pairs.flatMap fun p => [p.name, p.text]), [])) from rfl).trans (kindly_ok hk)
 generalize (getS S k0 now).getD zeroT = t at *
 have hsv := (w.thc 1 rfl).1
 obtain ⟨la, lc, rfl, _⟩ := hsv.form
 refine w.ldc 1 rfl rfl ?_
 refine call_ret (listPair_calls hsv (by omega)) ?_
 rintro _ h5 ⟨⟨ra, rn, rc, rfl, ol, fr⟩, c5⟩
 have hz := w.size
 have w := w.add (e := .o encQ 4 (.slice ra rn rc) _) c5 ol fr
 refine w.st1 1 rfl rfl rfl rfl fun h6 w => ?_
 exact finl9 x w 1 2 0 rfl rfl rfl (fun b hb => by have := fr b hb; omega) he
theorem tc_away (tc : TC ab kb now av t is pv lw rv Z fv th) : TC ab kb now av t is pv lw rv (fun h => Blk h b1 [fv] ∧ Z h) (.func (.func 232) #[] #[ptr b1]) (fun s => !th s) := by
 obtain ⟨g, fi, cap, rfl, hg⟩ := tc
 refine ⟨_, _, _, rfl, fun {h s key lv L} hE hZ => ?_⟩
 refine f232_calls (by simp) ?_
 refine Ei _ (Ai (cell_blk hZ.1 rfl) ?_)
 refine call_ret (hg hE hZ.2) ?_
 rintro _ h2 ⟨rfl, c2⟩
 exact ⟨rfl, c2⟩
set_option maxHeartbeats 1000000 in
theorem away9_calls {k0 : ByteArray} (p : P9 h0 kb sb mb c m S av (k0 :: l)) (hl : 1 ≤ l.length ∧ l.length < 65536) (x : As h0 h (cE ab kb now av key t is pv lw rv nilV [])) (tc : TC ab kb now av t is pv lw rv Z fv th)
  (hZ : ∀ h', Chg (cE ab kb now av key t is pv lw rv nilV []).fp h h' → Z h') :
  CallsH Tryz.prog 159 [ptr ab, .int .i64 op, fv] h (Ret fun r h' => r = repV 3 (hereL th l).length noText ∧ ∃ lv', Tn h0 h (cE ab kb now av key t is pv lw rv nilV []) h' (cE ab kb now av key t is pv lw rv lv' ((hereL th l).map fun n => ⟨op, key, n, noText, 0⟩))) := by
 obtain ⟨ba, oa, ac, rfl⟩ := p.argF (by simp)
 obtain ⟨fg, ffi, fcap, rfl⟩ : ∃ g fi cap, fv = .func (.func g) fi cap := by
  obtain ⟨g, fi, cap, e, _⟩ := tc
  exact ⟨g, fi, cap, e⟩
 refine f159_calls (by simp) ?_
 intro b5 h1 g1
 have w := x.st.new g1
 intro b6 h2 g2
 have w := w.new g2
 have hlc : (k0 :: l).length = l.length + 1 := rfl
 refine call_ret fresh9_calls ?_
 rintro _ h5 ⟨⟨bs, mb2, bt, rfl, hf, hfb⟩, c5⟩
 have w := w.add (e := frE bs mb2 bt (.func (.func 232) #[] #[ptr b5]) []) c5 hf (fun b hb => hfb b (by simpa [frE, En.fp] using hb))
 refine w.ldc 3 rfl rfl ?_
 have hac := (p.args _ (x.base w)).len.2
 refine Ai (by decide) (Ai (by simp only [List.length_cons]; omega) (Ai (by omega) ?_))
 refine sl_slc (lo := 1) (hi := (k0 :: l).length) encS_len (p.args _ (x.base w)) (by simp) (Nat.le_refl _) fun v1 hv1 => ?_
 have e1 : ((k0 :: l).drop 1).take ((k0 :: l).length - 1) = l := by simp
 rw [e1] at hv1
 have hsl : ∀ {h'}, Chg [] h0 h' → SL encS h' v1 l := fun hc => hv1 _ (p.args _ hc)
 clear hv1
 obtain ⟨va, vc, rfl, _⟩ := (hsl (Chg.refl _)).form
 obtain ⟨vb, vo, rfl⟩ := (hsl (Chg.refl _)).addr (by omega)
 obtain ⟨th2, hth2⟩ : ∃ th2 : ByteArray → Bool, th2 = fun s => !th s := ⟨_, rfl⟩
 have tc2 := tc_away (b1 := b5) tc
 rw [show hereL th l = newL th2 [] l by rw [hth2]; rfl]
 rw [← hth2] at tc2
 refine loop_intro (fun q : Nat × Nat × Value => [(0, ptr ab), (1, .int .i64 op), (6, ptr b6), (7, .int .i64 q.2.1), (8, .func (.func 228) #[] #[ptr bs, ptr bt]), (17, .slice (some ⟨vb, vo, none⟩) l.length vc), (18, .int .i64 l.length), (19, .int .i64 q.1)])
  (fun q h' => (q.1 ≤ l.length ∧ q.2.1 = (newL th2 [] (l.take q.1)).length) ∧ St (cE ab kb now (.slice (some ⟨ba, oa, none⟩) (k0 :: l).length ac) key t is pv lw rv nilV []).fp h h' [frE bs mb2 bt (.func (.func 232) #[] #[ptr b5]) (l.take q.1), .b b6 [.int .i64 0, .int .i64 0, .string ⟨#[]⟩, .slice none 0 0], .b b5 [.func (.func fg) ffi fcap],
   cE ab kb now (.slice (some ⟨ba, oa, none⟩) (k0 :: l).length ac) key t is pv lw rv q.2.2 ((newL th2 [] (l.take q.1)).map fun n => ⟨op, key, n, noText, 0⟩)])
  (fun q => l.length - q.1) (0, 0, nilV) ⟨rfl, rfl, rfl, rfl, rfl, rfl, rfl, rfl, trivial⟩ ⟨⟨Nat.zero_le _, rfl⟩, w⟩ ?_
 rintro ⟨q, n, lv⟩ h6 ⟨⟨hq, hn0⟩, w⟩
 replace hq : q ≤ l.length := hq
 replace hn0 : n = (newL th2 [] (l.take q)).length := hn0
 have hnq : n ≤ q := by
  have h1 := newL_len (th := th2) (l := l.take q) (pre := [])
  rw [List.length_take] at h1
  omega
 refine Ai rfl (Ai (fun hlt => ?_) (fun hge => ?_))
 ·have hlt : q < l.length := by omega
  have htk := List.take_succ_eq_append_getElem hlt
  obtain ⟨s, hs⟩ : ∃ s, s = l[q] := ⟨_, rfl⟩
  rw [← hs] at htk
  refine sl_ix (s := s) (hsl (x.base w)) q rfl (by rw [hs]; exact List.getElem?_eq_getElem hlt) ?_
  refine w.fresh 0 3 rfl rfl (by decide) tc2 (fun h9 c9 => ⟨fr_box w 0 2 rfl rfl (by decide) h9 c9, hZ h9 (w.set (e' := En.nil) 0 rfl c9 (fun b hb => .inl (by simp at hb; simp [frE, En.fp, hb])) trivial (fun b hb => (nomatch (show b ∈ ([] : List Nat) from hb)))).chg⟩) (by rw [List.length_take]; omega) fun h7 w => ?_
  rw [← htk] at w
  obtain ⟨bb, hbb⟩ : ∃ bb, bb = (!th2 s && decide (s ∉ l.take q)) := ⟨_, rfl⟩
  have hsn := newL_snoc (th := th2) hlt
  rw [← hs, ← hbb] at hsn
  have hcnt := newL_cnt (th := th2) hlt (b := bb) (by rw [← hs]; exact hbb)
  rw [← hbb]
  cases bb with
  |true =>
   refine Ai rfl (fun z hz => ?_)
   have hz := add_in hz (by simp only; omega) (by simp only; omega)
   subst hz
   refine sub9_go (i := 3) x w rfl (fun x => take9_calls ⟨op, noText, s, noText, 0⟩ x (by rw [List.length_map]; simp only; omega)) ?_ ?_
   rotate_left
   ·rintro why h8 hB
    exact hB.elim
   rintro _ h8 _ ⟨lv8, rfl⟩ w
   have hm : (newL th2 [] (l.take q)).map (fun n => (⟨op, key, n, noText, 0⟩ : Eff)) ++ [⟨op, key, s, noText, 0⟩] = (newL th2 [] (l.take (q + 1))).map fun n => ⟨op, key, n, noText, 0⟩ := by
    rw [hsn, if_pos rfl, List.map_append]; rfl
   have w := (show St _ _ _ [_, _, _, cE ab kb now (.slice (some ⟨ba, oa, none⟩) (k0 :: l).length ac) key t is pv lw rv lv8 ((newL th2 [] (l.take q)).map (fun n => (⟨op, key, n, noText, 0⟩ : Eff)) ++ [⟨op, key, s, noText, 0⟩])] from w)
   rw [hm] at w
   refine Ai rfl (fun z hz => ?_)
   have hz := add_in hz (by simp only; omega) (by simp only; omega)
   subst hz
   exact Ai rfl (Ei (q + 1, n + 1, lv8) (Ai ⟨rfl, rfl, rfl, rfl, rfl, rfl, rfl, rfl, trivial⟩ (Ai ⟨⟨hlt, by rw [hcnt, hn0]; rfl⟩, w⟩ (by simp only; omega))))
  |false =>
   have hm : newL th2 [] (l.take q) = newL th2 [] (l.take (q + 1)) := by rw [hsn, if_neg (by decide), List.append_nil]
   have w := (show St _ _ _ [_, _, _, cE ab kb now (.slice (some ⟨ba, oa, none⟩) (k0 :: l).length ac) key t is pv lw rv lv ((newL th2 [] (l.take q)).map (fun n => (⟨op, key, n, noText, 0⟩ : Eff)))] from w)
   rw [hm] at w
   refine Ai rfl (fun z hz => ?_)
   have hz := add_in hz (by simp only; omega) (by simp only; omega)
   subst hz
   exact Ai rfl (Ei (q + 1, n, lv) (Ai ⟨rfl, rfl, rfl, rfl, rfl, rfl, rfl, rfl, trivial⟩ (Ai ⟨⟨hlt, by rw [hcnt, hn0]; rfl⟩, w⟩ (by simp only; omega))))
 ·have hkl : q = l.length := by omega
  subst hkl
  rw [List.take_length] at w hn0
  refine w.callv number9_calls fun h7 w => ?_
  refine w.st1 1 rfl rfl rfl rfl fun h8 w => ?_
  exact ⟨_, rfl, cells_blk (w.get 1 rfl), by rw [hn0]; rfl, lv, x.out w 3 rfl⟩
theorem no_away {f : ByteArray → List ByteArray → Thing → Res} {g : List ByteArray → Res} (h : NoB S now A 2 65536 kd why) (hg : ∀ key l, g (key :: l) = if 1 ≤ l.length ∧ l.length < 65536 then kindly S now kd key (f key l) else .error wArgs) (hn : g [] = .error wArgs) : g A = .error why := by
 match A, h with
 |[], .inl ⟨_, e⟩ => rw [hn, e]
 |[], .inr ⟨hb, _⟩ => simp at hb
 |key :: l, .inl ⟨hb, e⟩ =>
  rw [hg, e, if_neg]
  intro hh
  exact hb ⟨by simp; omega, by simp; omega⟩
 |key :: l, .inr ⟨hb, k0, hk0, hk, e⟩ =>
  cases hk0
  simp at hb
  rw [hg, e, if_pos ⟨by omega, by omega⟩, kindly_no hk]
theorem hdel9 (p : P9 h0 kb sb mb c m S av A) (hs9 : S9 S) (x : As h0 h (c0 ab kb now av)) : CallsH Tryz.prog 83 [ptr ab] h (Cmd9 h0 h ab kb now av (cHdel S now A)) := by
 refine f83_calls (by simp) ?_
 intro b1 h1 g1
 have w := x.st.new g1
 intro b2 h2 g2
 have w := w.new g2
 refine w.ld1 1 rfl rfl ?_
 refine sub9_go (i := 2) x w rfl (fun x => begin9_calls p (by decide) x) ?_ ?_
 rotate_left
 ·rintro why h2 hB c2
  exact bad9 (no_away (f := fun key l t => .ok (numR (hereL (thereH t.pairs) l).length, (hereL (thereH t.pairs) l).map (unhashE key))) hB (fun _ _ => rfl) rfl) c2
 rintro _ h3 _ ⟨hb, k0, hk0, hk, p2, w2, r2, rfl⟩ w
 obtain ⟨k9, l, rfl⟩ := cons_of (by decide) hb.1
 cases hk0
 have hlc : (k0 :: l).length = l.length + 1 := rfl
 have hc9 : 1 ≤ l.length ∧ l.length < 65536 := ⟨by omega, by omega⟩
 have htl := (hs9.get k0 now).ps
 have he : cHdel S now (k0 :: l) = _ := (show cHdel S now (k0 :: l) = if 1 ≤ l.length ∧ l.length < 65536 then kindly S now 2 k0 (fun t => .ok (numR (hereL (thereH t.pairs) l).length, (hereL (thereH t.pairs) l).map (unhashE k0))) else .error wArgs from rfl).trans ((if_pos hc9).trans (kindly_ok hk))
 generalize (getS S k0 now).getD zeroT = t at *
 refine w.ld1 1 rfl rfl ?_
 refine call_ret (away9_calls p hc9 (x.out w 2 rfl).1 (tc_hdel (b1 := b1) (by omega)) (fun h9 c9 => Blk.chg (w.get 1 rfl) c9 (fun hm => w.apart 1 2 _ _ rfl rfl (by decide) b1 (by simp [En.fp]) hm))) ?_
 rintro _ h5 ⟨rfl, lv5, _, o5⟩
 have w := w.own 2 rfl o5
 refine w.st1 0 rfl rfl rfl rfl fun h6 w => ?_
 exact fin9 x w 0 2 rfl rfl he
theorem hincr9 (p : P9 h0 kb sb mb c m S av A) (hs9 : S9 S) (hl : LaidN h0) (hA : ∀ a ∈ A, a.size < 281474976710656) (x : As h0 h (c0 ab kb now av)) : CallsH Tryz.prog 86 [ptr ab] h (Cmd9 h0 h ab kb now av (cHincr S now A)) := by
 refine f86_calls (by simp) ?_
 intro b2 h1 g1
 have w := x.st.new g1
 refine sub9_go (i := 1) x w rfl (fun x => many9_calls p (by decide) x) ?_ ?_
 rotate_left
 ·rintro why h2 ⟨hB, rfl⟩ c2
  exact bad9 (arg3_bad hB) c2
 rintro _ h2 _ ⟨hb, k0, hk0, rfl⟩ w
 obtain ⟨k9, n, u, rfl⟩ := three_arg hb
 cases hk0
 refine sub9_go (i := 1) x w rfl (fun x => num9_calls (j := 2) p x hl rfl (hA u (by simp))) ?_ ?_
 rotate_left
 ·rintro why h3 ⟨hB, rfl⟩ c3
  refine bad9 ?_ c3
  show numbered u _ = _
  unfold numbered
  rw [hB]
 rintro _ h3 _ ⟨by_, hby, rfl, rfl⟩ w
 have hnn : ∀ f, numbered u f = f by_ := fun f => by unfold numbered; rw [hby]
 refine sub9_go (i := 1) x w rfl (fun x => of9_calls p x) ?_ ?_
 rotate_left
 ·rintro why h4 ⟨hB, rfl⟩ c4
  exact bad9 ((hnn _).trans (kindly_no hB)) c4
 rintro _ h4 _ ⟨hk, p2, w2, r2, rfl⟩ w
 have ht9 := hs9.get k0 now
 have hk9 := hA k0 (by simp)
 have hn9 := hA n (by simp)
 have he : cHincr S now [k0, n, u] = _ := (hnn _).trans (kindly_ok hk)
 generalize (getS S k0 now).getD zeroT = t at *
 have htl := ht9.ps
 obtain ⟨b, o, cc, rfl⟩ := p.argF (by simp)
 refine w.ldc 1 rfl rfl ?_
 refine p.ix (x.base w) 1 rfl rfl ?_
 refine w.callv (field9_calls (w.get 1 rfl) (by omega)) fun h5 w => ?_
 have hfs : ((fieldF t.pairs n).getD zeroS).size < 281474976710656 := by
  unfold fieldF
  cases hf : t.pairs.find? fun p => decide (p.name = n) with
  |none => decide
  |some pr =>
   have := ht9.pt pr (List.mem_of_find?_eq_some hf)
   show pr.text.size < _
   omega
 have hth : thereH t.pairs n = (fieldF t.pairs n).isSome := rfl
 rw [hth] at he
 generalize fieldF t.pairs n = fo at he hfs ⊢
 -- what stands behind the field's text
 have rest : ∀ {h6 : Heap} {s : ByteArray} {M : List En}, s = fo.getD zeroS → St (c0 ab kb now (.slice (some ⟨b, o, none⟩) 3 cc)).fp h h6 (.b b2 [.int .i64 0, .int .i64 0, .string ⟨#[]⟩, .slice none 0 0] :: cE ab kb now (.slice (some ⟨b, o, none⟩) 3 cc) k0 t (getS S k0 now).isSome p2 w2 r2 nilV [] :: M) →
   swp Tryz.prog (.seq (.ops f86r7) (.seq (.ops f86r8) (.seq (.ops f86r9) (.seq (.ops f86r10) (.seq (.seq (.ops f86r11) (.cond (.tmp 45) (.ops f86r12) .skip)) (.seq (.ops f86r13) (.seq (.ops f86r14) .ret)))))))
    (retQ [.cn 2 4] (Cmd9 h0 h ab kb now (.slice (some ⟨b, o, none⟩) 3 cc) (cHincr S now [k0, n, u]))) (mk [(0, ptr ab), (2, ptr b2), (3, .int .i64 by_), (4, .string s), (5, .bool fo.isSome)]) [] h6 := by
  intro h6 s M hs w
  rw [← hs] at hfs he
  obtain ⟨⟨sl⟩⟩ := s
  refine call_ret (bnum_calls (hl.ext (x.base w)) hfs) ?_
  rintro _ h7 ⟨rfl, c7⟩
  have w := w.ext c7
  have hnu : numOf ⟨⟨sl⟩⟩ = Num.num sl := rfl
  obtain ⟨nu, hnv⟩ : ∃ nu, nu = Num.num sl := ⟨_, rfl⟩
  rw [← hnv] at hnu ⊢
  cases nu with
  |none => exact must9_no (bad9 (by rw [he]; unfold numbered; rw [hnu]; rfl) w.chg)
  |some z =>
   have he : cHincr S now [k0, n, u] = _ := he.trans (show numbered _ _ = _ by unfold numbered; rw [hnu])
   refine must9_yes fun _ => ?_
   refine call_out9 (plus9_calls (numOf_in hnu) (numOf_in hby)) ?_ ?_
   rotate_left
   ·rintro why h8 ⟨hno, rfl, e⟩
    have e := e.symm
    subst e
    exact bad9 (he.trans (if_neg hno)) w.chg
   rintro _ h8 ⟨hok, rfl, e⟩
   have e := e.symm
   subst e
   have he := he.trans (if_pos hok)
   obtain ⟨pa, pc, rfl, _⟩ := (w.thc 1 rfl).1.form
   have hil := itoa_len hok
   have hisz : (⟨⟨Lib.itoa (z + by_)⟩⟩ : ByteArray).size ≤ 20 := hil
   have fin : ∀ {h9 : Heap} {items : Nat} {M : List En}, items = t.pairs.length + (if fo.isSome = true then 0 else 1) → St (c0 ab kb now (.slice (some ⟨b, o, none⟩) 3 cc)).fp h h9 (.b b2 [.int .i64 0, .int .i64 0, .string ⟨#[]⟩, .slice none 0 0] :: cE ab kb now (.slice (some ⟨b, o, none⟩) 3 cc) k0 t (getS S k0 now).isSome (.slice pa t.pairs.length pc) w2 r2 nilV [] :: M) →
     swp Tryz.prog (.seq (.ops f86r13) (.seq (.ops f86r14) .ret))
      (retQ [.cn 2 4] (Cmd9 h0 h ab kb now (.slice (some ⟨b, o, none⟩) 3 cc) (cHincr S now [k0, n, u]))) (mk [(0, ptr ab), (2, ptr b2), (6, .int .i64 (z + by_)), (8, .int .i64 items)]) [] h9 := by
    intro h9 items M hit w
    refine w.ldc 1 rfl rfl ?_
    refine p.ix (x.base w) 1 rfl rfl ?_
    refine w.callqv (format_calls (hl.ext (x.base w)) hok.1 hok.2) fun h10 w => ?_
    refine sub9_go (i := 1) x w rfl (fun x => put9_calls p ⟨5, noText, n, ⟨⟨Lib.itoa (z + by_)⟩⟩, 0⟩ x (by simp) (by omega) (by show n.size < _; omega) (by show (⟨⟨Lib.itoa (z + by_)⟩⟩ : ByteArray).size < _; omega)) ?_ ?_
    rotate_left
    ·rintro why h11 ⟨hB, rfl⟩ c11
     refine bad9 (he.trans (mkNo9 fun hh => hB ⟨?_, hh.2.1, ?_⟩)) c11
     ·have := hh.1
      rw [hit]
      push_cast
      split at this <;> simp_all
     ·have := hh.2.2
      rw [Bool.and_eq_true] at this
      exact ⟨of_decide_eq_true this.1, of_decide_eq_true this.2⟩
    rintro _ h11 _ ⟨hfit, lv11, rfl⟩ w
    refine w.callv number9_calls fun h12 w => ?_
    refine w.st1 0 rfl rfl rfl rfl fun h13 w => ?_
    refine fin9 x w 0 1 rfl rfl (he.trans (mkOk9 ⟨?_, hfit.2.1, ?_⟩))
    ·have := hfit.1
     rw [hit] at this
     push_cast at this
     split <;> simp_all
    ·rw [Bool.and_eq_true]
     exact ⟨decide_eq_true hfit.2.2.1, decide_eq_true hfit.2.2.2⟩
   refine w.ldc 1 rfl rfl ?_
   refine cut_at [(0, ptr ab), (2, ptr b2), (5, .bool fo.isSome), (6, .int .i64 (z + by_)), (8, .int .i64 t.pairs.length)] ⟨rfl, rfl, rfl, rfl, rfl, trivial⟩ ?_
   refine ass_go ?_
   refine not_go (v := fo.isSome) rfl rfl ?_
   refine cnd_go (t := !fo.isSome) rfl ?_
   cases fo with
   |none =>
    refine Ai rfl (fun z hz => ?_)
    have hz := add_in hz (by omega) (by omega)
    subst hz
    exact cut_at [(0, ptr ab), (2, ptr b2), (6, .int .i64 (z + by_)), (8, .int .i64 (t.pairs.length + 1 : Nat))] ⟨rfl, rfl, rfl, rfl, trivial⟩ (fin rfl w)
   |some s =>
    refine skp_go ?_
    exact cut_at [(0, ptr ab), (2, ptr b2), (6, .int .i64 (z + by_)), (8, .int .i64 t.pairs.length)] ⟨rfl, rfl, rfl, rfl, trivial⟩ (fin rfl w)
 refine mv1 rfl ?_
 refine ext1 rfl rfl ?_
 refine ext1 rfl rfl ?_
 refine mv_two9 rfl rfl ?_
 refine cut_at [(0, ptr ab), (2, ptr b2), (3, .int .i64 by_), (4, .string (fo.getD noText)), (5, .bool fo.isSome)] ⟨rfl, rfl, rfl, rfl, rfl, trivial⟩ ?_
 refine ass_go ?_
 refine not_go (v := fo.isSome) rfl rfl ?_
 refine cnd_go (t := !fo.isSome) rfl ?_
 cases fo with
 |none =>
  refine mv_go (v := .string zeroS) rfl ?_
  exact cut_at [(0, ptr ab), (2, ptr b2), (3, .int .i64 by_), (4, .string zeroS), (5, .bool false)] ⟨rfl, rfl, rfl, rfl, rfl, trivial⟩ (rest rfl w)
 |some s =>
  refine skp_go ?_
  exact cut_at [(0, ptr ab), (2, ptr b2), (3, .int .i64 by_), (4, .string s), (5, .bool true)] ⟨rfl, rfl, rfl, rfl, rfl, trivial⟩ (rest rfl w)
end
end Go.Proofs.YtjnijlnmbjjgpaaGreatDoor
namespace Go.Proofs.YtjnijlnmbjjgpaaGreatDoor
open Go Go.Sx C
section
variable {h0 h h1 h2 h' : Heap} {ab kb sb mb c b2 : Nat} {now op at_ : Int} {av : Value} {A : List ByteArray} {m : List KI} {S : Space} {res : Res}
theorem pass9 {M : List En} {key : ByteArray} {t : Thing} {is : Bool} {pv lw rv lv : Value} {E : List Eff} {q : Rep} {ra : Option Addr} {rn rc : Nat} (x : As h0 h (c0 ab kb now av)) (w : St (c0 ab kb now av).fp h h' M) (i j : Nat)
  (hi : M[i]? = some (.b b2 [.int .i64 q.k, .int .i64 q.i, .string q.s, .slice ra rn rc])) (hj : M[j]? = some (cE ab kb now av key t is pv lw rv lv E)) (sl : SL encQ h2 (.slice ra rn rc) q.l) (fr : ∀ b ∈ ablk ra, h1.size ≤ b) (kc : Chg [b2] h2 h') (hb : b2 < h1.size) (hz : h.size ≤ h1.size)
  (he : res = .ok (q, E)) : ∃ vs, vs.length = 4 ∧ Cells h' b2 0 vs ∧ Cmd9 h0 h ab kb now av res (.returned (.agg ⟨vs⟩)) h' :=
 ⟨_, rfl, cells_blk (w.get i hi), q, E, key, t, is, pv, lw, rv, lv, he, ⟨ra, rn, rc, rfl, sl.chg kc (fun b hb2 => by have := fr b hb2; simp; omega), fun b hb2 => by have := fr b hb2; omega⟩, x.out w j hj⟩
theorem llen9 (p : P9 h0 kb sb mb c m S av A) (x : As h0 h (c0 ab kb now av)) : CallsH Tryz.prog 91 [ptr ab] h (Cmd9 h0 h ab kb now av (cLlen S now A)) := by
 refine f91_calls (by simp) ?_
 intro b2 h1 g1
 have w := x.st.new g1
 refine sub9_go (i := 1) x w rfl (fun x => begin9_calls p (by decide) x) ?_ ?_
 rotate_left
 ·rintro why h2 hB c2
  exact bad9 (NoB.a1 (f := fun _ t => .ok (numR t.list.length, [])) hB) c2
 rintro _ h2 _ ⟨hb, k0, hk0, hk, p2, w2, r2, rfl⟩ w
 obtain ⟨k9, rfl⟩ := one_arg hb
 cases hk0
 obtain ⟨la, lc, rfl, _⟩ := (w.thc 1 rfl).2.1.form
 refine w.ldc 1 rfl rfl ?_
 refine w.callv number9_calls fun h3 w => ?_
 refine w.st1 0 rfl rfl rfl rfl fun h4 w => ?_
 have he : cLlen S now [k0] = _ := (show cLlen S now [k0] = kindly S now 3 k0 (fun t => .ok (numR t.list.length, [])) from rfl).trans (kindly_ok hk)
 exact fin9 x w 0 1 rfl rfl he
theorem pop9 (p : P9 h0 kb sb mb c m S av A) (hs9 : S9 S) (hat : In64 at_) (x : As h0 h (c0 ab kb now av)) : CallsH Tryz.prog 167 [ptr ab, .int .i64 op, .int .i64 at_] h (Cmd9 h0 h ab kb now av (cPop S now (fun key => ⟨op, key, noText, noText, 0⟩) at_ A)) := by
 refine f167_calls (by simp) ?_
 intro b6 h1 g1
 have w := x.st.new g1
 refine sub9_go (i := 1) x w rfl (fun x => begin9_calls p (by decide) x) ?_ ?_
 rotate_left
 ·rintro why h2 hB c2
  exact bad9 (NoB.a1 (f := fun key t => match placeN t.list.length at_ with
   |some i => .ok (textR (t.list[i]?.getD noText), [⟨op, key, noText, noText, 0⟩])
   |none => .ok (nilR, [])) hB) c2
 rintro _ h2 _ ⟨hb, k0, hk0, hk, p2, w2, r2, rfl⟩ w
 obtain ⟨k9, rfl⟩ := one_arg hb
 cases hk0
 have ht := (hs9.get k0 now).ls
 have he : cPop S now (fun key => ⟨op, key, noText, noText, 0⟩) at_ [k0] = _ := (show cPop S now (fun key => ⟨op, key, noText, noText, 0⟩) at_ [k0] = kindly S now 3 k0 (fun t => match placeN t.list.length at_ with
  |some i => .ok (textR (t.list[i]?.getD noText), [⟨op, k0, noText, noText, 0⟩])
  |none => .ok (nilR, [])) from rfl).trans (kindly_ok hk)
 generalize (getS S k0 now).getD zeroT = t at *
 obtain ⟨la, lc, rfl, _⟩ := (w.thc 1 rfl).2.1.form
 refine w.ldc 1 rfl rfl ?_
 refine callp (place_calls (by omega) hat) ?_
 cases hp : placeN t.list.length at_ with
 |none =>
  rw [hp] at he
  refine w.st1 0 rfl rfl rfl rfl fun h3 w => ?_
  exact fin9 x w 0 1 rfl rfl he
 |some i =>
  have hil := placeN_lt hp
  rw [hp] at he
  refine sub9_go (i := 1) x w rfl (fun x => take9_calls ⟨op, noText, noText, noText, 0⟩ x (by simp)) ?_ ?_
  rotate_left
  ·rintro why h3 hB
   exact hB.elim
  rintro _ h3 _ ⟨lv3, rfl⟩ w
  obtain ⟨b, o, rfl⟩ := (w.thc 1 rfl).2.1.addr (by omega)
  refine w.ldc 1 rfl rfl ?_
  refine sl_ix (w.thc 1 rfl).2.1 i rfl (List.getElem?_eq_getElem hil) ?_
  refine w.callv text9_calls fun h4 w => ?_
  refine w.st1 0 rfl rfl rfl rfl fun h5 w => ?_
  refine fin9 x w 0 1 rfl rfl ?_
  rw [he]
  simp [hil, textR]
theorem lpop9 (p : P9 h0 kb sb mb c m S av A) (hs9 : S9 S) (x : As h0 h (c0 ab kb now av)) : CallsH Tryz.prog 89 [ptr ab] h (Cmd9 h0 h ab kb now av (cPop S now unheadE 0 A)) := by
 refine f89_calls (by simp) ?_
 intro b2 h1 g1
 have w := x.st.new g1
 refine call_out9 (pop9 p hs9 ⟨by decide, by decide⟩ (x.out w 1 rfl).1) ?_ (fun why h2 ⟨he, c2⟩ => bad9 he (w.gone 1 rfl c2 (fun _ hb => .inl hb)).chg)
 rintro _ h2 ⟨q, E, key, t, is, pv, lw, rv, lv, he, ⟨ra, rn, rc, rfl, sl, fr⟩, _, o2⟩
 have w := w.own 1 rfl o2
 refine w.st2 0 rfl rfl rfl rfl fun h3 w k3 => ?_
 exact pass9 x w 0 1 rfl rfl sl fr k3 (by have := g1.id; have := g1.size; omega) g1.chg.size he
theorem rpop9 (p : P9 h0 kb sb mb c m S av A) (hs9 : S9 S) (x : As h0 h (c0 ab kb now av)) : CallsH Tryz.prog 90 [ptr ab] h (Cmd9 h0 h ab kb now av (cPop S now untailE (-1) A)) := by
 refine f90_calls (by simp) ?_
 intro b2 h1 g1
 have w := x.st.new g1
 refine call_out9 (pop9 p hs9 ⟨by decide, by decide⟩ (x.out w 1 rfl).1) ?_ (fun why h2 ⟨he, c2⟩ => bad9 he (w.gone 1 rfl c2 (fun _ hb => .inl hb)).chg)
 rintro _ h2 ⟨q, E, key, t, is, pv, lw, rv, lv, he, ⟨ra, rn, rc, rfl, sl, fr⟩, _, o2⟩
 have w := w.own 1 rfl o2
 refine w.st2 0 rfl rfl rfl rfl fun h3 w k3 => ?_
 exact pass9 x w 0 1 rfl rfl sl fr k3 (by have := g1.id; have := g1.size; omega) g1.chg.size he
theorem lindex9 (p : P9 h0 kb sb mb c m S av A) (hs9 : S9 S) (hl : LaidN h0) (hA : ∀ a ∈ A, a.size < 281474976710656) (x : As h0 h (c0 ab kb now av)) : CallsH Tryz.prog 92 [ptr ab] h (Cmd9 h0 h ab kb now av (cLindex S now A)) := by
 refine f92_calls (by simp) ?_
 intro b2 h1 g1
 have w := x.st.new g1
 refine sub9_go (i := 1) x w rfl (fun x => many9_calls p (by decide) x) ?_ ?_
 rotate_left
 ·rintro why h2 ⟨hB, rfl⟩ c2
  exact bad9 (arg2_bad hB) c2
 rintro _ h2 _ ⟨hb, k0, hk0, rfl⟩ w
 obtain ⟨k9, s, rfl⟩ := two_arg hb
 cases hk0
 refine sub9_go (i := 1) x w rfl (fun x => num9_calls (j := 1) p x hl rfl (hA s (by simp))) ?_ ?_
 rotate_left
 ·rintro why h3 ⟨hB, rfl⟩ c3
  refine bad9 ?_ c3
  show numbered s _ = _
  unfold numbered
  rw [hB]
 rintro _ h3 _ ⟨n, hn, rfl, rfl⟩ w
 have hnn : ∀ f, numbered s f = f n := fun f => by unfold numbered; rw [hn]
 refine sub9_go (i := 1) x w rfl (fun x => of9_calls p x) ?_ ?_
 rotate_left
 ·rintro why h4 ⟨hB, rfl⟩ c4
  exact bad9 ((hnn _).trans (kindly_no hB)) c4
 rintro _ h4 _ ⟨hk, p2, w2, r2, rfl⟩ w
 have ht := (hs9.get k0 now).ls
 have he : cLindex S now [k0, s] = _ := (hnn _).trans (kindly_ok hk)
 generalize (getS S k0 now).getD zeroT = t at *
 obtain ⟨la, lc, rfl, _⟩ := (w.thc 1 rfl).2.1.form
 refine w.ldc 1 rfl rfl ?_
 refine callp (place_calls (by omega) (numOf_in hn)) ?_
 cases hp : placeN t.list.length n with
 |none =>
  rw [hp] at he
  refine w.st1 0 rfl rfl rfl rfl fun h3 w => ?_
  exact fin9 x w 0 1 rfl rfl he
 |some i =>
  have hil := placeN_lt hp
  rw [hp] at he
  obtain ⟨b, o, rfl⟩ := (w.thc 1 rfl).2.1.addr (by omega)
  refine w.ldc 1 rfl rfl ?_
  refine sl_ix (w.thc 1 rfl).2.1 i rfl (List.getElem?_eq_getElem hil) ?_
  refine w.callv text9_calls fun h4 w => ?_
  refine w.st1 0 rfl rfl rfl rfl fun h5 w => ?_
  refine fin9 x w 0 1 rfl rfl ?_
  rw [he]
  simp [hil, textR]
theorem lrange9 (p : P9 h0 kb sb mb c m S av A) (hs9 : S9 S) (hl : LaidN h0) (hA : ∀ a ∈ A, a.size < 281474976710656) (x : As h0 h (c0 ab kb now av)) : CallsH Tryz.prog 93 [ptr ab] h (Cmd9 h0 h ab kb now av (cLrange S now A)) := by
 refine f93_calls (by simp) ?_
 intro b2 h1 g1
 have w := x.st.new g1
 refine sub9_go (i := 1) x w rfl (fun x => many9_calls p (by decide) x) ?_ ?_
 rotate_left
 ·rintro why h2 ⟨hB, rfl⟩ c2
  exact bad9 (arg3_bad hB) c2
 rintro _ h2 _ ⟨hb, k0, hk0, rfl⟩ w
 obtain ⟨k9, s, u, rfl⟩ := three_arg hb
 cases hk0
 refine sub9_go (i := 1) x w rfl (fun x => num9_calls (j := 1) p x hl rfl (hA s (by simp))) ?_ ?_
 rotate_left
 ·rintro why h3 ⟨hB, rfl⟩ c3
  refine bad9 ?_ c3
  show numbered s _ = _
  unfold numbered
  rw [hB]
 rintro _ h3 _ ⟨n, hn, rfl, rfl⟩ w
 have hnn : ∀ f, numbered s f = f n := fun f => by unfold numbered; rw [hn]
 refine sub9_go (i := 1) x w rfl (fun x => num9_calls (j := 2) p x hl rfl (hA u (by simp))) ?_ ?_
 rotate_left
 ·rintro why h3 ⟨hB, rfl⟩ c3
  refine bad9 ((hnn _).trans ?_) c3
  show numbered u _ = _
  unfold numbered
  rw [hB]
 rintro _ h3 _ ⟨n2, hn2, rfl, rfl⟩ w
 have hnn2 : ∀ f, numbered u f = f n2 := fun f => by unfold numbered; rw [hn2]
 refine sub9_go (i := 1) x w rfl (fun x => of9_calls p x) ?_ ?_
 rotate_left
 ·rintro why h4 ⟨hB, rfl⟩ c4
  exact bad9 ((hnn _).trans ((hnn2 _).trans (kindly_no hB))) c4
 rintro _ h4 _ ⟨hk, p2, w2, r2, rfl⟩ w
 have ht := (hs9.get k0 now).ls
 have he : cLrange S now [k0, s, u] = _ := (hnn _).trans ((hnn2 _).trans (kindly_ok hk))
 generalize (getS S k0 now).getD zeroT = t at *
 obtain ⟨la, lc, rfl, hlc⟩ := (w.thc 1 rfl).2.1.form
 refine w.ldc 1 rfl rfl ?_
 refine callp (span_calls (by omega) (numOf_in hn) (numOf_in hn2)) ?_
 have hsp := spanN_le t.list.length n n2
 refine w.ldc 1 rfl rfl ?_
 refine Ai (by omega) (Ai (by omega) (Ai (by omega) ?_))
 refine sl_slc encS_len (w.thc 1 rfl).2.1 hsp.1 hsp.2 fun v1 hv1 => ?_
 have hsv := hv1 _ (w.thc 1 rfl).2.1
 refine call_ret (listStr_calls hsv (by simp; omega)) ?_
 rintro _ h5 ⟨⟨ra, rn, rc, rfl, ol, fr⟩, c5⟩
 have hz := w.size
 have w := w.add (e := .o encQ 4 (.slice ra rn rc) _) c5 ol fr
 refine w.st1 1 rfl rfl rfl rfl fun h6 w => ?_
 refine finl9 x w 1 2 0 rfl rfl rfl (fun b hb => by have := fr b hb; omega) ?_
 rw [he]
 simp [listR, qs, toQ, spanL]
 rfl
theorem lset9 (p : P9 h0 kb sb mb c m S av A) (hs9 : S9 S) (hl : LaidN h0) (hA : ∀ a ∈ A, a.size < 281474976710656) (x : As h0 h (c0 ab kb now av)) : CallsH Tryz.prog 94 [ptr ab] h (Cmd9 h0 h ab kb now av (cLset S now A)) := by
 refine f94_calls (by simp) ?_
 intro b2 h1 g1
 have w := x.st.new g1
 refine sub9_go (i := 1) x w rfl (fun x => many9_calls p (by decide) x) ?_ ?_
 rotate_left
 ·rintro why h2 ⟨hB, rfl⟩ c2
  exact bad9 (arg3_bad hB) c2
 rintro _ h2 _ ⟨hb, k0, hk0, rfl⟩ w
 obtain ⟨k9, s, u, rfl⟩ := three_arg hb
 cases hk0
 refine sub9_go (i := 1) x w rfl (fun x => num9_calls (j := 1) p x hl rfl (hA s (by simp))) ?_ ?_
 rotate_left
 ·rintro why h3 ⟨hB, rfl⟩ c3
  refine bad9 ?_ c3
  show numbered s _ = _
  unfold numbered
  rw [hB]
 rintro _ h3 _ ⟨n, hn, rfl, rfl⟩ w
 have hnn : ∀ f, numbered s f = f n := fun f => by unfold numbered; rw [hn]
 refine sub9_go (i := 1) x w rfl (fun x => of9_calls p x) ?_ ?_
 rotate_left
 ·rintro why h4 ⟨hB, rfl⟩ c4
  exact bad9 ((hnn _).trans (kindly_no hB)) c4
 rintro _ h4 _ ⟨hk, p2, w2, r2, rfl⟩ w
 have ht := (hs9.get k0 now).ls
 have he : cLset S now [k0, s, u] = _ := (hnn _).trans (kindly_ok hk)
 generalize (getS S k0 now).getD zeroT = t at *
 obtain ⟨la, lc, rfl, _⟩ := (w.thc 1 rfl).2.1.form
 refine w.ldc 1 rfl rfl ?_
 refine callp (place_calls (by omega) (numOf_in hn)) ?_
 cases hp : placeN t.list.length n with
 |none =>
  rw [hp] at he
  exact must9_no (bad9 he w.chg)
 |some i =>
  have hil := placeN_lt hp
  rw [hp] at he
  refine must9_yes fun _ => ?_
  obtain ⟨b, o, cc, rfl⟩ := p.argF (by simp)
  refine w.ldc 1 rfl rfl ?_
  refine p.ix (x.base w) 2 rfl rfl ?_
  refine w.ldc 1 rfl rfl ?_
  refine sub9_go (i := 1) x w rfl (fun x => put9_calls p ⟨11, noText, noText, u, i⟩ x (by simp) (by have := hA k0 (by simp); omega) (by show noText.size < _; decide) (by have := hA u (by simp); show u.size < _; omega)) ?_ ?_
  rotate_left
  ·rintro why h5 ⟨hB, rfl⟩ c5
   exact bad9 (he.trans (mkNo9 (fun hh => hB ⟨hh.1, hh.2.1, by show noText.size ≤ _; decide, of_decide_eq_true hh.2.2⟩))) c5
  rintro _ h5 _ ⟨hfit, lv5, rfl⟩ w
  refine w.st1 0 rfl rfl rfl rfl fun h6 w => ?_
  exact fin9 x w 0 1 rfl rfl (he.trans (mkOk9 ⟨hfit.1, hfit.2.1, decide_eq_true hfit.2.2.2⟩))
theorem NoB.ak {kd : Int} {why : ByteArray} {f : ByteArray → List ByteArray → Thing → Res} {g : List ByteArray → Res} (h : NoB S now A 2 65536 kd why) (hg : ∀ key l, g (key :: l) = if 1 ≤ l.length ∧ l.length < 65536 then kindly S now kd key (f key l) else .error wArgs) (hn : g [] = .error wArgs) : g A = .error why := by
 match A, h with
 |[], .inl ⟨_, e⟩ => rw [hn, e]
 |[], .inr ⟨hb, _⟩ => simp at hb
 |key :: l, .inl ⟨hb, e⟩ =>
  rw [hg, e, if_neg]
  intro hh
  exact hb ⟨by simp; omega, by simp; omega⟩
 |key :: l, .inr ⟨hb, k0, hk0, hk, e⟩ =>
  cases hk0
  simp at hb
  rw [hg, e, if_pos ⟨by omega, by omega⟩, kindly_no hk]
set_option maxHeartbeats 1000000 in
theorem push9 (p : P9 h0 kb sb mb c m S av A) (hs9 : S9 S) (hA : ∀ a ∈ A, a.size < 281474976710656) (x : As h0 h (c0 ab kb now av)) : CallsH Tryz.prog 166 [ptr ab, .int .i64 op] h (Cmd9 h0 h ab kb now av (cPush S now (fun key s => ⟨op, key, noText, s, 0⟩) A)) := by
 refine f166_calls (by simp) ?_
 intro b4 h1 g1
 have w := x.st.new g1
 refine sub9_go (i := 1) x w rfl (fun x => begin9_calls p (by decide) x) ?_ ?_
 rotate_left
 ·rintro why h2 hB c2
  exact bad9 (NoB.ak (f := fun key l t => makes S now key (t.list.length + l.length) (l.all small) (numR (t.list.length + l.length)) (l.map fun s => ⟨op, key, noText, s, 0⟩)) hB (fun _ _ => rfl) rfl) c2
 rintro _ h2 _ ⟨hb, k0, hk0, hk, p2, w2, r2, rfl⟩ w
 obtain ⟨k9, l, rfl⟩ : ∃ k0 l, A = k0 :: l := by
  cases A with
  |nil => simp at hb
  |cons k0 l => exact ⟨k0, l, rfl⟩
 cases hk0
 have hll : 1 ≤ l.length ∧ l.length < 65536 := by simp at hb; exact ⟨by omega, by omega⟩
 have ht := (hs9.get k0 now).ls
 have hk0 := hA k0 (by simp)
 have he : cPush S now (fun key s => ⟨op, key, noText, s, 0⟩) (k0 :: l) = makes S now k0 (((getS S k0 now).getD zeroT).list.length + l.length) (l.all small) (numR (((getS S k0 now).getD zeroT).list.length + l.length)) (l.map fun s => ⟨op, k0, noText, s, 0⟩) :=
  (if_pos hll).trans (kindly_ok hk)
 generalize (getS S k0 now).getD zeroT = t at *
 obtain ⟨aa, ac, rfl⟩ := p.argN
 obtain ⟨la, lc, rfl, _⟩ := (w.thc 1 rfl).2.1.form
 refine w.ldc 1 rfl rfl ?_
 have hac := (p.args _ (x.base w)).len.2
 refine Ai (by decide) (Ai (by simp only [List.length_cons]; omega) (Ai (by omega) ?_))
 refine sl_slc (lo := 1) (hi := (k0 :: l).length) encS_len (p.args _ (x.base w)) (by simp) (Nat.le_refl _) fun v1 hv1 => ?_
 have e1 : ((k0 :: l).drop 1).take ((k0 :: l).length - 1) = l := by simp
 rw [e1] at hv1
 have hsl : ∀ {h'}, Chg [] h0 h' → SL encS h' v1 l := fun hc => hv1 _ (p.args _ hc)
 clear hv1
 obtain ⟨va, vc, rfl, _⟩ := (hsl (Chg.refl _)).form
 obtain ⟨vb, vo, rfl⟩ := (hsl (Chg.refl _)).addr (by omega)
 have hD : ∀ q (hq : q < l.length), (l.map fun s => (⟨op, k0, noText, s, 0⟩ : Eff))[q]? = some { (⟨op, noText, noText, l[q], 0⟩ : Eff) with key := k0 } := fun q hq => by simp [hq]
 have hDl : (l.map fun s => (⟨op, k0, noText, s, 0⟩ : Eff)).length = l.length := List.length_map _
 have hDn : (l.map fun s => (⟨op, k0, noText, s, 0⟩ : Eff)) ≠ [] := fun e => by rw [e] at hDl; simp at hDl; omega
 generalize hDg : (l.map fun s => (⟨op, k0, noText, s, 0⟩ : Eff)) = D at *
 refine loop_intro (fun q : Nat × Value => [(0, ptr ab), (1, .int .i64 op), (4, ptr b4), (13, .slice (some ⟨vb, vo, none⟩) l.length vc), (14, .int .i64 l.length), (15, .int .i64 q.1)])
  (fun q h' => (q.1 ≤ l.length ∧ (0 < q.1 → (t.list.length + q.1 : Int) ≤ 65536 ∧ k0.size ≤ 1048576) ∧ (l.take q.1).all small = true) ∧ St (c0 ab kb now (.slice aa (k0 :: l).length ac)).fp h h' [.b b4 [.int .i64 0, .int .i64 0, .string ⟨#[]⟩, .slice none 0 0], cE ab kb now (.slice aa (k0 :: l).length ac) k0 t (getS S k0 now).isSome p2 (.slice la t.list.length lc) r2 q.2 (accE S k0 now D q.1)])
  (fun q => l.length - q.1) (0, nilV) ⟨rfl, rfl, rfl, rfl, rfl, rfl, trivial⟩ ⟨⟨Nat.zero_le _, fun h9 => absurd h9 (by simp), rfl⟩, w⟩ ?_
 rintro ⟨q, lv⟩ h3 ⟨⟨hq, hq1, hq2⟩, w⟩
 have hq : q ≤ l.length := hq
 refine Ai rfl (Ai (fun hlt => ?_) (fun hge => ?_))
 ·have hlt : q < l.length := by omega
  obtain ⟨s, hs⟩ : ∃ s, s = l[q] := ⟨_, rfl⟩
  have hsm : s ∈ l := by rw [hs]; exact List.getElem_mem hlt
  have hsz := hA s (by simp [hsm])
  have hD := hD q hlt
  rw [← hs] at hD
  refine sl_ix (s := s) (hsl (x.base w)) q rfl (by rw [hs]; exact List.getElem?_eq_getElem hlt) ?_
  refine w.ldc 1 rfl rfl ?_
  refine Ai rfl (fun z hz => ?_)
  have hz : z = (t.list.length : Int) + q := hz.trans (wrap_in (by omega) (by omega))
  subst hz
  refine Ai rfl (fun z hz => ?_)
  have hz : z = (t.list.length : Int) + q + 1 := hz.trans (wrap_in (by omega) (by omega))
  subst hz
  have hal := acc_len (S := S) (key := k0) (now := now) D q (by omega)
  refine sub9_go (i := 1) x w rfl (fun x => put9_calls (items := (t.list.length : Int) + q + 1) p ⟨op, noText, noText, s, 0⟩ x (by simp only; omega) (by omega) (by show noText.size < _; decide) (by show s.size < _; omega)) ?_ ?_
  rotate_left
  ·rintro why h5 ⟨hB, rfl⟩ c5
   refine bad9 (he.trans (mkNo9 ?_)) c5
   rintro ⟨m1, m2, m3⟩
   exact hB ⟨by omega, m2, by show noText.size ≤ _; decide, of_decide_eq_true (List.all_eq_true.1 m3 s hsm)⟩
  rintro _ h5 _ ⟨hfit, lv5, rfl⟩ w
  rw [acc_put hD] at w
  refine Ai rfl (fun z hz => ?_)
  have hz := add_in hz (by omega) (by omega)
  subst hz
  refine Ai rfl (Ei (q + 1, lv5) (Ai ⟨rfl, rfl, rfl, rfl, rfl, rfl, trivial⟩ (Ai ⟨⟨hlt, fun _ => ⟨?_, hfit.2.1⟩, ?_⟩, w⟩ (by simp only; omega))))
  ·have := hfit.1
   push_cast
   omega
  ·rw [List.take_succ_eq_append_getElem hlt, ← hs, List.all_append, hq2]
   simp [small]
   exact hfit.2.2.2
 ·have hkl : q = l.length := by omega
  subst hkl
  refine w.ldc 1 rfl rfl ?_
  refine w.ldc 1 rfl rfl ?_
  refine Ai rfl (fun z hz => ?_)
  have hz : z = (t.list.length : Int) + ((k0 :: l).length : Nat) := hz.trans (wrap_in (by simp; omega) (by simp; omega))
  subst hz
  refine Ai rfl (fun z hz => ?_)
  have hz : z = (t.list.length : Int) + l.length := hz.trans ((wrap_in (by simp; omega) (by simp; omega)).trans (by simp; omega))
  subst hz
  refine w.callv number9_calls fun h4 w => ?_
  refine w.st1 0 rfl rfl rfl rfl fun h5 w => ?_
  have e9 : accE S k0 now D l.length = dropsS S k0 now ++ D := by rw [← hDl]; exact acc_all hDn
  rw [e9] at w
  obtain ⟨m1, m2⟩ := hq1 (by show 0 < l.length; omega)
  have hq2 : (l.take l.length).all small = true := hq2
  rw [List.take_length] at hq2
  exact fin9 x w 0 1 rfl rfl (he.trans (mkOk9 ⟨m1, m2, hq2⟩))
theorem lpush9 (p : P9 h0 kb sb mb c m S av A) (hs9 : S9 S) (hA : ∀ a ∈ A, a.size < 281474976710656) (x : As h0 h (c0 ab kb now av)) : CallsH Tryz.prog 87 [ptr ab] h (Cmd9 h0 h ab kb now av (cPush S now headE A)) := by
 refine f87_calls (by simp) ?_
 intro b2 h1 g1
 have w := x.st.new g1
 refine call_out9 (push9 p hs9 hA (x.out w 1 rfl).1) ?_ (fun why h2 ⟨he, c2⟩ => bad9 he (w.gone 1 rfl c2 (fun _ hb => .inl hb)).chg)
 rintro _ h2 ⟨q, E, key, t, is, pv, lw, rv, lv, he, ⟨ra, rn, rc, rfl, sl, fr⟩, _, o2⟩
 have w := w.own 1 rfl o2
 refine w.st2 0 rfl rfl rfl rfl fun h3 w k3 => ?_
 exact pass9 x w 0 1 rfl rfl sl fr k3 (by have := g1.id; have := g1.size; omega) g1.chg.size he
theorem rpush9 (p : P9 h0 kb sb mb c m S av A) (hs9 : S9 S) (hA : ∀ a ∈ A, a.size < 281474976710656) (x : As h0 h (c0 ab kb now av)) : CallsH Tryz.prog 88 [ptr ab] h (Cmd9 h0 h ab kb now av (cPush S now tailE A)) := by
 refine f88_calls (by simp) ?_
 intro b2 h1 g1
 have w := x.st.new g1
 refine call_out9 (push9 p hs9 hA (x.out w 1 rfl).1) ?_ (fun why h2 ⟨he, c2⟩ => bad9 he (w.gone 1 rfl c2 (fun _ hb => .inl hb)).chg)
 rintro _ h2 ⟨q, E, key, t, is, pv, lw, rv, lv, he, ⟨ra, rn, rc, rfl, sl, fr⟩, _, o2⟩
 have w := w.own 1 rfl o2
 refine w.st2 0 rfl rfl rfl rfl fun h3 w k3 => ?_
 exact pass9 x w 0 1 rfl rfl sl fr k3 (by have := g1.id; have := g1.size; omega) g1.chg.size he
end
end Go.Proofs.YtjnijlnmbjjgpaaGreatDoor
namespace Go.Proofs.YtjnijlnmbjjgpaaGreatDoor
open Go Go.Sx C
theorem newL_at {th : ByteArray → Bool} {l : List ByteArray} {q : Nat} (hq : q < l.length) (hb : (!th l[q] && decide (l[q] ∉ l.take q)) = true) : (newL th [] l)[(newL th [] (l.take q)).length]? = some l[q] := by
 have e1 := newL_app (th := th) (a := l.take (q + 1)) (b := l.drop (q + 1)) (pre := [])
 rw [List.take_append_drop, newL_snoc hq, if_pos hb] at e1
 rw [e1, List.append_assoc, List.getElem?_append_right (Nat.le_refl _), Nat.sub_self]
 rfl
section
variable {h0 h h1 h2 h' : Heap} {ab kb sb mb c b1 b2 bs bt mb2 : Nat} {now op kd : Int} {av lv pv lw rv fv v : Value} {key why : ByteArray} {t : Thing} {is : Bool} {A l pre : List ByteArray} {L : List Eff} {m : List KI} {S : Space} {M : List En} {T : List Nat} {res : Res} {th : ByteArray → Bool} {Z : Heap → Prop}
theorem good9 (hi : InS S) : TGood ((getS S key now).getD zeroT) := by
 cases hg : getS S key now with
 |none => exact TGood.zero 0
 |some t => exact (hi _ (getS_mem hg)).good
theorem set_sorted (hi : InS S) (hk : okK 4 (getS S key now) = true) : ((getS S key now).getD zeroT).list.Pairwise fun a b => sless a b = true := by
 cases hg : getS S key now with
 |none => exact List.Pairwise.nil
 |some t =>
  rw [hg] at hk
  exact (hi _ (getS_mem hg)).good.ls (of_decide_eq_true hk)
theorem NoB.as {f : ByteArray → List ByteArray → Thing → Res} {g : List ByteArray → Res} (h : NoB S now A 2 65536 kd why) (hg : ∀ key l, g (key :: l) = if 1 ≤ l.length ∧ l.length < 65536 then kindly S now kd key (f key l) else .error wArgs) (hn : g [] = .error wArgs) : g A = .error why := no_away h hg hn
set_option maxHeartbeats 1000000 in
theorem sadd9 (p : P9 h0 kb sb mb c m S av A) (hs9 : S9 S) (hi : InS S) (hA : ∀ a ∈ A, a.size < 281474976710656) (x : As h0 h (c0 ab kb now av)) : CallsH Tryz.prog 95 [ptr ab] h (Cmd9 h0 h ab kb now av (cSadd S now A)) := by
 refine f95_calls (by simp) ?_
 intro b2 h1 g1
 have w := x.st.new g1
 refine sub9_go (i := 1) x w rfl (fun x => begin9_calls p (by decide) x) ?_ ?_
 rotate_left
 ·rintro why h2 hB c2
  exact bad9 (NoB.as (f := fun key l t => if newL (thereL t.list) [] l = [] then .ok (numR 0, []) else makes S now key (t.list.length + (newL (thereL t.list) [] l).length) ((newL (thereL t.list) [] l).all small) (numR (newL (thereL t.list) [] l).length) ((newL (thereL t.list) [] l).map (addE key))) hB (fun _ _ => rfl) rfl) c2
 rintro _ h2 _ ⟨hb, k0, hk0, hk, p2, w2, r2, rfl⟩ w
 obtain ⟨k9, l, rfl⟩ := cons_of (by decide) hb.1
 cases hk0
 obtain ⟨ba, oa, ac, rfl⟩ := p.argF (by simp)
 have hlc : (k0 :: l).length = l.length + 1 := rfl
 have hc9 : 1 ≤ l.length ∧ l.length < 65536 := ⟨by omega, by omega⟩
 have htl := (hs9.get k0 now).ls
 have hso := set_sorted hi hk
 have hk9 := hA k0 (by simp)
 have he : cSadd S now (k0 :: l) = _ := (if_pos hc9).trans (kindly_ok hk)
 generalize (getS S k0 now).getD zeroT = t at *
 obtain ⟨la, lc, rfl, _⟩ := (w.thc 1 rfl).2.1.form
 obtain ⟨ns, hns⟩ : ∃ ns, ns = newL (thereL t.list) [] l := ⟨_, rfl⟩
 obtain ⟨D, hDe⟩ : ∃ D, D = ns.map (addE k0) := ⟨_, rfl⟩
 have he : cSadd S now (k0 :: l) = if ns = [] then .ok (numR 0, []) else makes S now k0 (t.list.length + ns.length) (ns.all small) (numR ns.length) D := by rw [he, hDe, hns]
 have hDl : D.length = ns.length := by rw [hDe]; exact List.length_map _
 have hnsl : ns.length ≤ l.length := by rw [hns]; exact newL_len
 refine call_ret fresh9_calls ?_
 rintro _ h5 ⟨⟨bs, mb2, bt, rfl, hf, hfb⟩, c5⟩
 have w := w.add (e := frE bs mb2 bt (.func (.func 172) #[ptr ab] #[]) []) c5 hf (fun b hb => hfb b (by simpa [frE, En.fp] using hb))
 refine w.ldc 2 rfl rfl ?_
 have hac := (p.args _ (x.base w)).len.2
 refine Ai (by decide) (Ai (by simp only [List.length_cons]; omega) (Ai (by omega) ?_))
 refine sl_slc (lo := 1) (hi := (k0 :: l).length) encS_len (p.args _ (x.base w)) (by simp) (Nat.le_refl _) fun v1 hv1 => ?_
 have e1 : ((k0 :: l).drop 1).take ((k0 :: l).length - 1) = l := by simp
 rw [e1] at hv1
 have hsl : ∀ {h'}, Chg [] h0 h' → SL encS h' v1 l := fun hc => hv1 _ (p.args _ hc)
 clear hv1
 obtain ⟨va, vc, rfl, _⟩ := (hsl (Chg.refl _)).form
 obtain ⟨vb, vo, rfl⟩ := (hsl (Chg.refl _)).addr (by omega)
 refine loop_intro (fun q : Nat × Nat × Value => [(0, ptr ab), (2, ptr b2), (3, .int .i64 q.2.1), (4, .func (.func 228) #[] #[ptr bs, ptr bt]), (16, .slice (some ⟨vb, vo, none⟩) l.length vc), (17, .int .i64 l.length), (18, .int .i64 q.1)])
  (fun q h' => (q.1 ≤ l.length ∧ q.2.1 = (newL (thereL t.list) [] (l.take q.1)).length ∧ q.2.1 ≤ ns.length ∧ (0 < q.2.1 → ((t.list.length : Int) + q.2.1 ≤ 65536 ∧ k0.size ≤ 1048576)) ∧ (newL (thereL t.list) [] (l.take q.1)).all small = true) ∧
   St (c0 ab kb now (.slice (some ⟨ba, oa, none⟩) (k0 :: l).length ac)).fp h h' [frE bs mb2 bt (.func (.func 172) #[ptr ab] #[]) (l.take q.1), .b b2 [.int .i64 0, .int .i64 0, .string ⟨#[]⟩, .slice none 0 0],
    cE ab kb now (.slice (some ⟨ba, oa, none⟩) (k0 :: l).length ac) k0 t (getS S k0 now).isSome p2 (.slice la t.list.length lc) r2 q.2.2 (accE S k0 now D q.2.1)])
  (fun q => l.length - q.1) (0, 0, nilV) ⟨rfl, rfl, rfl, rfl, rfl, rfl, rfl, trivial⟩ ⟨⟨Nat.zero_le _, rfl, Nat.zero_le _, fun h9 => absurd h9 (by simp), rfl⟩, w⟩ ?_
 rintro ⟨q, n, lv⟩ h6 ⟨⟨hq, hn0, hnn, hfits, hsm⟩, w⟩
 replace hq : q ≤ l.length := hq
 replace hn0 : n = (newL (thereL t.list) [] (l.take q)).length := hn0
 replace hnn : n ≤ ns.length := hnn
 replace hfits : 0 < n → ((t.list.length : Int) + n ≤ 65536 ∧ k0.size ≤ 1048576) := hfits
 replace hsm : (newL (thereL t.list) [] (l.take q)).all small = true := hsm
 refine Ai rfl (Ai (fun hlt => ?_) (fun hge => ?_))
 ·have hlt : q < l.length := by omega
  have htk := List.take_succ_eq_append_getElem hlt
  obtain ⟨s, hs⟩ : ∃ s, s = l[q] := ⟨_, rfl⟩
  rw [← hs] at htk
  have hsl9 : s ∈ l := by rw [hs]; exact List.getElem_mem hlt
  have hsz := hA s (by simp [hsl9])
  refine sl_ix (s := s) (hsl (x.base w)) q rfl (by rw [hs]; exact List.getElem?_eq_getElem hlt) ?_
  refine w.fresh 0 2 rfl rfl (by decide) (tc_member (by omega) hso) (fun _ _ => trivial) (by rw [List.length_take]; omega) fun h7 w => ?_
  rw [← htk] at w
  obtain ⟨bb, hbb⟩ : ∃ bb, bb = (!thereL t.list s && decide (s ∉ l.take q)) := ⟨_, rfl⟩
  have hsn := newL_snoc (th := thereL t.list) hlt
  rw [← hs, ← hbb] at hsn
  have hcnt := newL_cnt (th := thereL t.list) hlt (b := bb) (by rw [← hs]; exact hbb)
  rw [← hbb]
  cases bb with
  |true =>
   have hat := newL_at (th := thereL t.list) hlt (by rw [← hs]; exact hbb.symm)
   rw [← hs, ← hns, ← hn0] at hat
   have hnlt : n < ns.length := (List.getElem?_eq_some_iff.1 hat).1
   have hsns : s ∈ ns := List.mem_of_getElem? hat
   have hD : D[n]? = some { (⟨12, noText, s, noText, 0⟩ : Eff) with key := k0 } := by rw [hDe, List.getElem?_map, hat]; rfl
   have hcnt : (newL (thereL t.list) [] (l.take (q + 1))).length = n + 1 := by rw [hcnt, hn0]; rfl
   have hal := acc_len (S := S) (key := k0) (now := now) D n (by omega)
   have hne : ns ≠ [] := fun e => by rw [e] at hnlt; simp at hnlt
   refine Ai rfl (fun z hz => ?_)
   have hz := add_in hz (by simp only; omega) (by simp only; omega)
   subst hz
   refine w.ldc 2 rfl rfl ?_
   refine Ai rfl (fun z hz => ?_)
   have hz : z = (t.list.length : Int) + (n + 1 : Nat) := hz.trans (wrap_in (by simp only; omega) (by simp only; omega))
   subst hz
   refine sub9_go (i := 2) x w rfl (fun x => put9_calls p ⟨12, noText, s, noText, 0⟩ x (by simp only; omega) (by omega) (by show s.size < _; omega) (by show noText.size < _; decide)) ?_ ?_
   rotate_left
   ·rintro why h8 ⟨hB, rfl⟩ c8
    refine bad9 (he.trans ((if_neg hne).trans (mkNo9 ?_))) c8
    rintro ⟨m1, m2, m3⟩
    exact hB ⟨by omega, m2, small_of9 m3 hsns, by show noText.size ≤ _; decide⟩
   rintro _ h8 _ ⟨hfit, lv8, rfl⟩ w
   rw [acc_put hD] at w
   refine Ai rfl (fun z hz => ?_)
   have hz := add_in hz (by simp only; omega) (by simp only; omega)
   subst hz
   refine Ai rfl (Ei (q + 1, n + 1, lv8) (Ai ⟨rfl, rfl, rfl, rfl, rfl, rfl, rfl, trivial⟩ (Ai ⟨⟨hlt, by rw [hcnt], hnlt, fun _ => ⟨?_, hfit.2.1⟩, ?_⟩, w⟩ (by simp only; omega))))
   ·have := hfit.1
    push_cast at this ⊢
    omega
   ·rw [hsn, if_pos rfl, List.all_append, hsm]
    simp [small]
    exact hfit.2.2.1
  |false =>
   have hcnt : (newL (thereL t.list) [] (l.take (q + 1))).length = n := by rw [hcnt, hn0]; rfl
   refine Ai rfl (fun z hz => ?_)
   have hz := add_in hz (by simp only; omega) (by simp only; omega)
   subst hz
   exact Ai rfl (Ei (q + 1, n, lv) (Ai ⟨rfl, rfl, rfl, rfl, rfl, rfl, rfl, trivial⟩ (Ai ⟨⟨hlt, by rw [hcnt], hnn, hfits, by rw [hsn, if_neg (by decide), List.append_nil]; exact hsm⟩, w⟩ (by simp only; omega))))
 ·have hkl : q = l.length := by omega
  subst hkl
  rw [List.take_length, ← hns] at hn0 hsm
  refine w.callv number9_calls fun h7 w => ?_
  refine w.st1 1 rfl rfl rfl rfl fun h8 w => ?_
  subst hn0
  refine fin9 x w 1 2 rfl rfl ?_
  by_cases hne : ns = []
  ·rw [he, if_pos hne]
   have hD0 : D = [] := List.eq_nil_of_length_eq_zero (by rw [hDl, hne]; rfl)
   rw [hD0, hne]
   rfl
  ·have hD9 : D ≠ [] := fun e => hne (List.eq_nil_of_length_eq_zero (by rw [← hDl, e]; rfl))
   have hpos : 0 < ns.length := List.length_pos_iff.2 hne
   rw [he, if_neg hne, mkOk9 ⟨(hfits hpos).1, (hfits hpos).2, hsm⟩]
   have := acc_all (S := S) (key := k0) (now := now) hD9
   rw [hDl] at this
   rw [show accE S k0 now D (l.length, ns.length, lv).2.1 = dropsS S k0 now ++ D from this]
   rfl
theorem srem9 (p : P9 h0 kb sb mb c m S av A) (hs9 : S9 S) (hi : InS S) (x : As h0 h (c0 ab kb now av)) : CallsH Tryz.prog 96 [ptr ab] h (Cmd9 h0 h ab kb now av (cSrem S now A)) := by
 refine f96_calls (by simp) ?_
 intro b2 h2 g2
 have w := x.st.new g2
 refine sub9_go (i := 1) x w rfl (fun x => begin9_calls p (by decide) x) ?_ ?_
 rotate_left
 ·rintro why h2 hB c2
  exact bad9 (no_away (f := fun key l t => .ok (numR (hereL (thereL t.list) l).length, (hereL (thereL t.list) l).map (removeE key))) hB (fun _ _ => rfl) rfl) c2
 rintro _ h3 _ ⟨hb, k0, hk0, hk, p2, w2, r2, rfl⟩ w
 obtain ⟨k9, l, rfl⟩ := cons_of (by decide) hb.1
 cases hk0
 have hlc : (k0 :: l).length = l.length + 1 := rfl
 have hc9 : 1 ≤ l.length ∧ l.length < 65536 := ⟨by omega, by omega⟩
 have htl := (hs9.get k0 now).ls
 have hso := set_sorted hi hk
 have he : cSrem S now (k0 :: l) = _ := (show cSrem S now (k0 :: l) = if 1 ≤ l.length ∧ l.length < 65536 then kindly S now 4 k0 (fun t => .ok (numR (hereL (thereL t.list) l).length, (hereL (thereL t.list) l).map (removeE k0))) else .error wArgs from rfl).trans ((if_pos hc9).trans (kindly_ok hk))
 generalize (getS S k0 now).getD zeroT = t at *
 refine call_ret (away9_calls p hc9 (x.out w 1 rfl).1 (tc_member (by omega) hso) (fun _ _ => trivial)) ?_
 rintro _ h5 ⟨rfl, lv5, _, o5⟩
 have w := w.own 1 rfl o5
 refine w.st1 0 rfl rfl rfl rfl fun h6 w => ?_
 exact fin9 x w 0 1 rfl rfl he
theorem truth9_calls {b : Bool} : CallsH Tryz.prog 173 [.bool b] h (Ret fun r h' => r = repV 3 (if b = true then 1 else 0) noText ∧ Chg [] h h') := by
 refine f173_calls (by simp) ?_
 intro b1 h1 g1
 have w := (St.start h).new g1
 cases b with
 |true =>
  refine w.callv number9_calls fun h2 w => ?_
  refine w.st1 0 rfl rfl rfl rfl fun h3 w => ?_
  exact ⟨_, rfl, cells_blk (w.get 0 rfl), rfl, w.chg⟩
 |false =>
  refine w.callv number9_calls fun h2 w => ?_
  refine w.st1 0 rfl rfl rfl rfl fun h3 w => ?_
  exact ⟨_, rfl, cells_blk (w.get 0 rfl), rfl, w.chg⟩
theorem sis9 (p : P9 h0 kb sb mb c m S av A) (hs9 : S9 S) (hi : InS S) (x : As h0 h (c0 ab kb now av)) : CallsH Tryz.prog 97 [ptr ab] h (Cmd9 h0 h ab kb now av (cSis S now A)) := by
 refine f97_calls (by simp) ?_
 intro b2 h1 g1
 have w := x.st.new g1
 refine sub9_go (i := 1) x w rfl (fun x => begin9_calls p (by decide) x) ?_ ?_
 rotate_left
 ·rintro why h2 hB c2
  exact bad9 (NoB.a2 (f := fun _ n t => .ok (numR (if thereL t.list n = true then 1 else 0), [])) hB) c2
 rintro _ h2 _ ⟨hb, k0, hk0, hk, p2, w2, r2, rfl⟩ w
 obtain ⟨k9, n, rfl⟩ := two_arg hb
 cases hk0
 have he : cSis S now [k0, n] = _ := (show cSis S now [k0, n] = kindly S now 4 k0 (fun t => .ok (numR (if thereL t.list n = true then 1 else 0), [])) from rfl).trans (kindly_ok hk)
 have htl := (hs9.get k0 now).ls
 have hso := set_sorted hi hk
 generalize (getS S k0 now).getD zeroT = t at *
 obtain ⟨b, o, cc, rfl⟩ := p.argF (by simp)
 refine w.ldc 1 rfl rfl ?_
 refine p.ix (x.base w) 1 rfl rfl ?_
 refine w.callv (member9_calls (w.get 1 rfl) (by omega) hso) fun h3 w => ?_
 refine w.callv truth9_calls fun h4 w => ?_
 refine w.st1 0 rfl rfl rfl rfl fun h5 w => ?_
 exact fin9 x w 0 1 rfl rfl he
theorem scard9 (p : P9 h0 kb sb mb c m S av A) (x : As h0 h (c0 ab kb now av)) : CallsH Tryz.prog 98 [ptr ab] h (Cmd9 h0 h ab kb now av (cScard S now A)) := by
 refine f98_calls (by simp) ?_
 intro b2 h1 g1
 have w := x.st.new g1
 refine sub9_go (i := 1) x w rfl (fun x => begin9_calls p (by decide) x) ?_ ?_
 rotate_left
 ·rintro why h2 hB c2
  exact bad9 (NoB.a1 (f := fun _ t => .ok (numR t.list.length, [])) hB) c2
 rintro _ h2 _ ⟨hb, k0, hk0, hk, p2, w2, r2, rfl⟩ w
 obtain ⟨k9, rfl⟩ := one_arg hb
 cases hk0
 obtain ⟨la, lc, rfl, _⟩ := (w.thc 1 rfl).2.1.form
 refine w.ldc 1 rfl rfl ?_
 refine w.callv number9_calls fun h3 w => ?_
 refine w.st1 0 rfl rfl rfl rfl fun h4 w => ?_
 have he : cScard S now [k0] = _ := (show cScard S now [k0] = kindly S now 4 k0 (fun t => .ok (numR t.list.length, [])) from rfl).trans (kindly_ok hk)
 exact fin9 x w 0 1 rfl rfl he
theorem smem9 (p : P9 h0 kb sb mb c m S av A) (hs9 : S9 S) (x : As h0 h (c0 ab kb now av)) : CallsH Tryz.prog 99 [ptr ab] h (Cmd9 h0 h ab kb now av (cSmem S now A)) := by
 refine f99_calls (by simp) ?_
 intro b2 h1 g1
 have w := x.st.new g1
 refine sub9_go (i := 1) x w rfl (fun x => begin9_calls p (by decide) x) ?_ ?_
 rotate_left
 ·rintro why h2 hB c2
  exact bad9 (NoB.a1 (f := fun _ t => .ok (listR t.list, [])) hB) c2
 rintro _ h2 _ ⟨hb, k0, hk0, hk, p2, w2, r2, rfl⟩ w
 obtain ⟨k9, rfl⟩ := one_arg hb
 cases hk0
 have htl := (hs9.get k0 now).ls
 have he : cSmem S now [k0] = _ := (show cSmem S now [k0] = kindly S now 4 k0 (fun t => .ok (listR t.list, [])) from rfl).trans (kindly_ok hk)
 generalize (getS S k0 now).getD zeroT = t at *
 have hsv := (w.thc 1 rfl).2.1
 obtain ⟨la, lc, rfl, _⟩ := hsv.form
 refine w.ldc 1 rfl rfl ?_
 refine call_ret (listStr_calls hsv (by omega)) ?_
 rintro _ h5 ⟨⟨ra, rn, rc, rfl, ol, fr⟩, c5⟩
 have hz := w.size
 have w := w.add (e := .o encQ 4 (.slice ra rn rc) _) c5 ol fr
 refine w.st1 1 rfl rfl rfl rfl fun h6 w => ?_
 refine finl9 x w 1 2 0 rfl rfl rfl (fun b hb => by have := fr b hb; omega) ?_
 rw [he]
 simp [listR, qs, toQ]
end
end Go.Proofs.YtjnijlnmbjjgpaaGreatDoor
namespace Go.Proofs.YtjnijlnmbjjgpaaGreatDoor.K5
open Go Go.Sx Go.Proofs.YtjnijlnmbjjgpaaGreatDoor C
def ahead (a b : Rank) : Bool := decide (a.score < b.score) || (decide (a.score = b.score) && sless a.name b.name)
def findR (n : ByteArray) : List Rank → Nat → Int
 |[], _ => -1
 |r :: l, i => if r.name = n then i else findR n l (i + 1)
def sel (p : Rank → Nat → Bool) : List Rank → Nat → List Rank
 |[], _ => []
 |x :: l, i => if p x i then x :: sel p l (i + 1) else sel p l (i + 1)
def dropR (n : ByteArray) (l : List Rank) : List Rank := sel (fun x _ => decide (x.name ≠ n)) l 0
def atR (f u : Int) (l : List Rank) : List Rank := sel (fun _ i => decide (f ≤ i) && decide ((i : Int) < u)) l 0
def betweenR (a b : Int) (l : List Rank) : List Rank := sel (fun x _ => decide (a ≤ x.score) && decide (x.score ≤ b)) l 0
def upto (x : Rank) : List Rank → Nat
 |[] => 0
 |y :: l => if ahead y x then upto x l + 1 else 0
theorem upto_le (x : Rank) : ∀ l, upto x l ≤ l.length
 |[] => by simp [upto]
 |y :: l => by
  have := upto_le x l
  simp only [upto]; split <;> simp; omega
def insR (x : Rank) (l : List Rank) : List Rank := l.take (upto x l) ++ x :: l.drop (upto x l)
def setR (l : List Rank) (x : Rank) : List Rank := insR x (dropR x.name l)
def setErr (l : List Rank) (x : Rank) : Bool := decide (1048576 < x.name.size) || (decide (findR x.name l 0 < 0) && decide (65536 ≤ l.length))
def ofGo : List Rank → List Rank → Option (List Rank)
 |out, [] => some out
 |out, x :: l => if 0 ≤ findR x.name out 0 then none else ofGo (if setErr out x then out else setR out x) l
def ofErr (l : List Rank) : Int :=
 if 65536 < l.length then 3 else if l.any (fun x => decide (1048576 < x.name.size)) then 3 else if (ofGo [] l).isNone then 2 else 0
def ofR (l : List Rank) : List Rank := if ofErr l = 0 then (ofGo [] l).getD [] else []
theorem insR_len (x : Rank) (l : List Rank) : (insR x l).length = l.length + 1 := by
 have := upto_le x l
 simp [insR]; omega
theorem upto_spec (x : Rank) : ∀ (l : List Rank) (k : Nat), (∀ j (hj : j < l.length), j < k → ahead l[j] x = true) → k ≤ l.length → (∀ hk : k < l.length, ahead l[k] x = false) → upto x l = k
 |[], k, _, hk, _ => by simp at hk; simp [upto, hk]
 |y :: l, 0, _, _, h => by
  have := h (by simp)
  simp at this
  simp [upto, this]
 |y :: l, k + 1, h1, hk, h2 => by
  have hy := h1 0 (by simp) (by omega)
  simp at hy
  simp only [upto, hy, if_true]
  rw [upto_spec x l k (fun j hj hjk => by have := h1 (j + 1) (by simpa using hj) (by omega); simpa using this) (by simpa using hk) (fun hk' => by have := h2 (by simpa using hk'); simpa using this)]
theorem any_drop {p : Rank → Bool} {l : List Rank} {k : Nat} (h : k < l.length) (hp : p l[k] = true) : l.any p = true :=
 List.any_eq_true.2 ⟨l[k], List.getElem_mem h, hp⟩
theorem ahead_iff (a b : Rank) : ahead a b = true ↔ a.score < b.score ∨ (a.score = b.score ∧ sless a.name b.name = true) := by simp [ahead]
theorem ahead_irrefl (a : Rank) : ahead a a = false := by
 have := sless_irrefl a.name
 simp [ahead, this]
theorem ahead_trans {a b c : Rank} (h1 : ahead a b = true) (h2 : ahead b c = true) : ahead a c = true := by
 rw [ahead_iff] at *
 rcases h1 with h1 | ⟨h1, h1'⟩ <;> rcases h2 with h2 | ⟨h2, h2'⟩
 ·left; omega
 ·left; omega
 ·left; omega
 ·right; exact ⟨by omega, sless_trans h1' h2'⟩
theorem ahead_total {a b : Rank} (h : a.name ≠ b.name) : ahead a b = true ∨ ahead b a = true := by
 rw [ahead_iff, ahead_iff]
 by_cases e : a.score = b.score
 ·rcases sless_total h with h | h
  ·left; right; exact ⟨e, h⟩
  ·right; right; exact ⟨e.symm, h⟩
 ·rcases Int.lt_or_gt_of_ne e with h | h
  ·left; left; exact h
  ·right; left; exact h
def Sorted (l : List Rank) : Prop := l.Pairwise fun a b => ahead a b = true
theorem upto_iff {x : Rank} : ∀ {l : List Rank}, Sorted l → ∀ (k : Nat) (hk : k < l.length), ahead l[k] x = true ↔ k < upto x l
 |[], _, k, hk => by simp at hk
 |y :: l, hs, 0, hk => by
  simp only [List.getElem_cons_zero, upto]
  split <;> simp_all
 |y :: l, hs, k + 1, hk => by
  have ⟨h1, h2⟩ := List.pairwise_cons.1 hs
  have ih := upto_iff (x := x) h2 k (by simpa using hk)
  simp only [List.getElem_cons_succ, upto]
  split
  ·rw [ih]; omega
  ·rename_i hy
   constructor
   ·intro h
    exact absurd (ahead_trans (h1 _ (List.getElem_mem _)) h) hy
   ·intro h; omega
theorem sorted_app {a b : List Rank} : Sorted (a ++ b) ↔ Sorted a ∧ Sorted b ∧ ∀ x ∈ a, ∀ y ∈ b, ahead x y = true := List.pairwise_append
theorem insR_sorted {x : Rank} {l : List Rank} (hs : Sorted l) (hn : ∀ y ∈ l, y.name ≠ x.name) : Sorted (insR x l) := by
 have hl : l.take (upto x l) ++ l.drop (upto x l) = l := List.take_append_drop ..
 have hs2 := hs
 rw [← hl, sorted_app] at hs2
 obtain ⟨h1, h2, h3⟩ := hs2
 have ha : ∀ y ∈ l.take (upto x l), ahead y x = true := by
  intro y hy
  obtain ⟨k, hk, rfl⟩ := List.getElem_of_mem hy
  have hk2 : k < upto x l ∧ k < l.length := by simp at hk; omega
  rw [List.getElem_take]
  exact (upto_iff hs k hk2.2).2 hk2.1
 have hb : ∀ y ∈ l.drop (upto x l), ahead x y = true := by
  intro y hy
  obtain ⟨k, hk, rfl⟩ := List.getElem_of_mem hy
  have hk2 : upto x l + k < l.length := by simp at hk; omega
  rw [List.getElem_drop]
  rcases ahead_total (hn _ (List.getElem_mem hk2)) with h | h
  ·have := (upto_iff hs _ hk2).1 h; omega
  ·exact h
 unfold insR
 rw [sorted_app]
 refine ⟨h1, List.pairwise_cons.2 ⟨hb, h2⟩, fun y hy z hz => ?_⟩
 rcases List.mem_cons.1 hz with rfl | hz
 ·exact ha y hy
 ·exact h3 y hy z hz
theorem upto_mid {a b : List Rank} {x : Rank} (hs : Sorted (a ++ x :: b)) : upto x (a ++ x :: b) = a.length := by
 refine upto_spec x _ _ ?_ (by simp) ?_
 ·intro j hj hja
  rw [List.getElem_append_left hja]
  exact (sorted_app.1 hs).2.2 _ (List.getElem_mem hja) x (by simp)
 ·intro hk
  rw [List.getElem_append_right (Nat.le_refl _)]
  simp [ahead_irrefl]
def Names (l : List Rank) : Prop := (l.map Rank.name).Nodup
theorem sel_all {p : Rank → Nat → Bool} : ∀ {l : List Rank} {i : Nat}, (∀ x ∈ l, ∀ j, p x j = true) → sel p l i = l
 |[], _, _ => rfl
 |x :: l, i, h => by
  simp only [sel, h x (by simp) i, if_true]
  rw [sel_all fun y hy => h y (by simp [hy])]
theorem dropR_none {n : ByteArray} {l : List Rank} (h : ∀ y ∈ l, y.name ≠ n) : dropR n l = l :=
 sel_all fun x hx _ => by simpa using h x hx
theorem findR_none {n : ByteArray} : ∀ {l : List Rank} {i : Nat}, (∀ y ∈ l, y.name ≠ n) → findR n l i = -1
 |[], _, _ => rfl
 |x :: l, i, h => by
  simp only [findR]
  rw [if_neg (h x (by simp)), findR_none fun y hy => h y (by simp [hy])]
theorem findR_mid {x : Rank} : ∀ {a b : List Rank} {i : Nat}, Names (a ++ x :: b) → findR x.name (a ++ x :: b) i = i + a.length
 |[], b, i, _ => by simp [findR]
 |y :: a, b, i, h => by
  have h' : Names (a ++ x :: b) := (List.nodup_cons.1 h).2
  have hy : y.name ≠ x.name := fun e => (List.nodup_cons.1 h).1 (by rw [e]; simp)
  simp only [List.cons_append, findR]
  rw [if_neg hy, findR_mid h']
  simp; omega
theorem insR_names {x : Rank} {l : List Rank} (hs : Names l) (hn : ∀ y ∈ l, y.name ≠ x.name) : Names (insR x l) := by
 have hp : (insR x l).Perm (x :: l) := by
  unfold insR
  refine List.perm_middle.trans ?_
  rw [List.take_append_drop]
 have := hp.map Rank.name
 unfold Names
 rw [this.nodup_iff]
 simp only [List.map_cons, List.nodup_cons]
 refine ⟨fun h => ?_, hs⟩
 obtain ⟨y, hy, e⟩ := List.mem_map.1 h
 exact hn y hy e
structure Nd where
 mb : Nat
 lb : Nat
 ht : Nat
 r : Rank
def Nd.row (a : Nd) : List Value := encR a.r ++ [.slice (some ⟨a.lb, 0, none⟩) a.ht a.ht]
structure NodeOK (h : Heap) (a : Nd) : Prop where
 m : Blk h a.mb a.row
 l : ∃ lk, Blk h a.lb lk ∧ lk.length = 2 * a.ht
 pos : 1 ≤ a.ht
 top : a.ht ≤ 16
def link (h : Heap) (a : Nd) (hh : Nat) (to : Value) (w : Int) : Prop :=
 cell h a.lb (2 * hh) = some to ∧ cell h a.lb (2 * hh + 1) = some (.int .i64 w)
def lead (h : Heap) (hh : Nat) (a : Nd) (i : Nat) : List (Nd × Nat) → Prop
 |[] => ∃ w, link h a hh (.pointer none) w
 |(b, k) :: _ => link h a hh (ptr b.mb) ((k : Int) - i)
def LvL (h : Heap) (hh : Nat) : List (Nd × Nat) → Prop
 |[] => True
 |(a, i) :: l => lead h hh a i l ∧ LvL h hh l
def ons (hh : Nat) : Nat → List Nd → List (Nd × Nat)
 |_, [] => []
 |k, a :: l => if hh < a.ht then (a, k) :: ons hh (k + 1) l else ons hh (k + 1) l
theorem ons_app (hh : Nat) : ∀ (k : Nat) (a b : List Nd), ons hh k (a ++ b) = ons hh k a ++ ons hh (k + a.length) b
 |k, [], b => by simp [ons]
 |k, x :: a, b => by
  have ih := ons_app hh (k + 1) a b
  have e : k + (x :: a).length = k + 1 + a.length := by simp; omega
  simp only [List.cons_append, ons, ih, e]
  split <;> simp
theorem ons_mem {hh : Nat} : ∀ {k : Nat} {l : List Nd} {a : Nd} {i : Nat}, (a, i) ∈ ons hh k l → hh < a.ht ∧ k ≤ i ∧ l[i - k]? = some a
 |k, [], a, i, h => by simp [ons] at h
 |k, x :: l, a, i, h => by
  simp only [ons] at h
  have key : (a, i) ∈ ons hh (k + 1) l → hh < a.ht ∧ k ≤ i ∧ (x :: l)[i - k]? = some a := by
   intro h
   obtain ⟨h1, h2, h3⟩ := ons_mem h
   refine ⟨h1, by omega, ?_⟩
   have e : i - k = (i - (k + 1)) + 1 := by omega
   rw [e]; simpa using h3
  split at h
  ·rename_i hx
   rcases List.mem_cons.1 h with h | h
   ·cases h; simp [hx]
   ·exact key h
  ·exact key h
theorem mem_ons {hh : Nat} : ∀ {k : Nat} {l : List Nd} {a : Nd} {i : Nat}, hh < a.ht → l[i]? = some a → (a, k + i) ∈ ons hh k l
 |k, [], a, i, _, h => by simp at h
 |k, x :: l, a, 0, hh', h => by
  simp at h; subst h
  simp [ons, hh']
 |k, x :: l, a, i + 1, hh', h => by
  have ih := mem_ons (k := k + 1) hh' (show l[i]? = some a by simpa using h)
  have e : k + (i + 1) = k + 1 + i := by omega
  simp only [ons, e]
  split
  ·exact List.mem_cons_of_mem _ ih
  ·exact ih
theorem ons_low {hh hh' : Nat} (hl : hh' ≤ hh) {k : Nat} {l : List Nd} {a : Nd} {i : Nat} (h : (a, i) ∈ ons hh k l) : (a, i) ∈ ons hh' k l := by
 obtain ⟨h1, h2, h3⟩ := ons_mem h
 have := mem_ons (hh := hh') (k := k) (by omega) h3
 have e : k + (i - k) = i := by omega
 rw [e] at this; exact this
theorem ons_rise {hh : Nat} : ∀ {k : Nat} {l : List Nd}, (ons hh k l).Pairwise fun x y => x.2 < y.2
 |k, [] => by simp [ons]
 |k, x :: l => by
  have ih := @ons_rise hh (k + 1) l
  simp only [ons]
  split
  ·refine List.pairwise_cons.2 ⟨fun y hy => ?_, ih⟩
   have := (ons_mem (a := y.1) (i := y.2) hy).2.1
   simp only; omega
  ·exact ih
def Seg (h : Heap) (hh : Nat) : List (Nd × Nat) → (Nd × Nat) → Prop
 |[], _ => True
 |(a, i) :: l, y => lead h hh a i (l ++ [y]) ∧ Seg h hh l y
theorem lead_head {h : Heap} {hh : Nat} {a : Nd} {i : Nat} {l : List (Nd × Nat)} {y : Nd × Nat} {r : List (Nd × Nat)} : lead h hh a i (l ++ y :: r) ↔ lead h hh a i (l ++ [y]) := by
 cases l <;> obtain ⟨b, k⟩ := y <;> simp [lead]
theorem lvl_app {h : Heap} {hh : Nat} {y : Nd × Nat} {r : List (Nd × Nat)} : ∀ {l : List (Nd × Nat)}, LvL h hh (l ++ y :: r) ↔ Seg h hh l y ∧ LvL h hh (y :: r)
 |[] => by simp [Seg]
 |(a, i) :: l => by
  have ih := @lvl_app h hh y r l
  simp only [List.cons_append, LvL, Seg, ih, lead_head, and_assoc]
theorem link_keep {h h' : Heap} {hh : Nat} {a : Nd} (e : ∀ o, o = 2 * hh ∨ o = 2 * hh + 1 → cell h' a.lb o = cell h a.lb o) {to : Value} {w : Int} (hl : link h a hh to w) : link h' a hh to w :=
 ⟨by rw [e _ (Or.inl rfl)]; exact hl.1, by rw [e _ (Or.inr rfl)]; exact hl.2⟩
theorem lead_keep {h h' : Heap} {hh : Nat} {a : Nd} {i : Nat} {l : List (Nd × Nat)} (e : ∀ o, o = 2 * hh ∨ o = 2 * hh + 1 → cell h' a.lb o = cell h a.lb o) (hl : lead h hh a i l) : lead h' hh a i l := by
 cases l with
 |nil => obtain ⟨w, hw⟩ := hl; exact ⟨w, link_keep e hw⟩
 |cons y l => obtain ⟨b, k⟩ := y; exact link_keep e hl
theorem lvl_keep {h h' : Heap} {hh : Nat} : ∀ {l : List (Nd × Nat)}, (∀ x ∈ l, ∀ o, o = 2 * hh ∨ o = 2 * hh + 1 → cell h' x.1.lb o = cell h x.1.lb o) → LvL h hh l → LvL h' hh l
 |[], _, _ => trivial
 |(a, i) :: l, e, hl => ⟨lead_keep (e (a, i) (by simp)) hl.1, lvl_keep (fun x hx => e x (by simp [hx])) hl.2⟩
theorem seg_keep {h h' : Heap} {hh : Nat} {y : Nd × Nat} : ∀ {l : List (Nd × Nat)}, (∀ x ∈ l, ∀ o, o = 2 * hh ∨ o = 2 * hh + 1 → cell h' x.1.lb o = cell h x.1.lb o) → Seg h hh l y → Seg h' hh l y
 |[], _, _ => trivial
 |(a, i) :: l, e, hl => ⟨lead_keep (e (a, i) (by simp)) hl.1, seg_keep (fun x hx => e x (by simp [hx])) hl.2⟩
def up1 (l : List (Nd × Nat)) : List (Nd × Nat) := l.map fun x => (x.1, x.2 + 1)
theorem ons_up (hh : Nat) : ∀ (k : Nat) (l : List Nd), ons hh (k + 1) l = up1 (ons hh k l)
 |k, [] => rfl
 |k, x :: l => by
  have ih := ons_up hh (k + 1) l
  simp only [ons, ih]
  split <;> simp [up1]
theorem lead_up {h : Heap} {hh : Nat} {a : Nd} {i : Nat} {l : List (Nd × Nat)} : lead h hh a (i + 1) (up1 l) ↔ lead h hh a i l := by
 cases l with
 |nil => simp [up1, lead]
 |cons y l =>
  obtain ⟨b, k⟩ := y
  have e : ((k + 1 : Nat) : Int) - ((i + 1 : Nat) : Int) = k - i := by omega
  simp only [up1, List.map_cons, lead, e]
theorem lvl_up {h : Heap} {hh : Nat} : ∀ {l : List (Nd × Nat)}, LvL h hh (up1 l) ↔ LvL h hh l
 |[] => by simp [up1]
 |(a, i) :: l => by
  have ih := @lvl_up h hh l
  have h1 := @lead_up h hh a i l
  have e : up1 ((a, i) :: l) = (a, i + 1) :: up1 l := rfl
  rw [e]
  simp only [LvL, ih, h1]
def LastOn (hh : Nat) (A : List Nd) (p : Nd) (i : Nat) : Prop := ∃ l, ons hh 0 A = l ++ [(p, i)]
theorem LastOn.mem {hh : Nat} {A : List Nd} {p : Nd} {i : Nat} (hl : LastOn hh A p i) : (p, i) ∈ ons hh 0 A := by
 obtain ⟨l, e⟩ := hl; rw [e]; simp
theorem LastOn.get {hh : Nat} {A : List Nd} {p : Nd} {i : Nat} (hl : LastOn hh A p i) : hh < p.ht ∧ A[i]? = some p := by
 obtain ⟨h1, _, h3⟩ := ons_mem hl.mem
 exact ⟨h1, by simpa using h3⟩
theorem next_cases {h : Heap} {hh : Nat} {A B : List Nd} (hL : LvL h hh (ons hh 0 (A ++ B))) {a : Nd} {i : Nat} (ha : (a, i) ∈ ons hh 0 A) :
  ((∃ w, link h a hh (.pointer none) w) ∧ LastOn hh A a i) ∨
  (∃ (b : Nd) (k : Nat), link h a hh (ptr b.mb) ((k : Int) - i) ∧ i < k ∧ k < A.length ∧ (b, k) ∈ ons hh 0 A) ∨
  (∃ (b : Nd) (k : Nat), link h a hh (ptr b.mb) ((k : Int) - i) ∧ A.length ≤ k ∧ (A ++ B)[k]? = some b ∧ LastOn hh A a i) := by
 obtain ⟨l, r, e⟩ := List.append_of_mem ha
 have hrise := @ons_rise hh 0 A
 rw [ons_app, e, List.append_assoc, List.cons_append, lvl_app] at hL
 have hl := hL.2.1
 cases r with
 |cons y r =>
  obtain ⟨b, k⟩ := y
  right; left
  have hm : (b, k) ∈ ons hh 0 A := by rw [e]; simp
  obtain ⟨h1, _, h3⟩ := ons_mem hm
  refine ⟨b, k, hl, ?_, ?_, hm⟩
  ·rw [e, List.pairwise_append] at hrise
   exact (List.pairwise_cons.1 hrise.2.1).1 (b, k) (by simp)
  ·have := (List.getElem?_eq_some_iff.1 h3).1; omega
 |nil =>
  have hlast : LastOn hh A a i := ⟨l, e⟩
  cases hB : ons hh (0 + A.length) B with
  |nil => rw [hB] at hl; exact Or.inl ⟨hl, hlast⟩
  |cons y r =>
   obtain ⟨b, k⟩ := y
   rw [hB] at hl
   right; right
   obtain ⟨h1, h2, h3⟩ := ons_mem (show (b, k) ∈ ons hh (0 + A.length) B by rw [hB]; simp)
   refine ⟨b, k, hl, by omega, ?_, hlast⟩
   rw [List.getElem?_append_right (by omega)]
   simpa using h3
end Go.Proofs.YtjnijlnmbjjgpaaGreatDoor.K5
