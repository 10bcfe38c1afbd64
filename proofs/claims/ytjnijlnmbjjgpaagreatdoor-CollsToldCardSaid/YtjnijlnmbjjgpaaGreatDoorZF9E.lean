/-
  Layer 9: the commands of sets, but SINTER.
  The contracts of the functions of taborref05: what they give is what plain functions on lists give.
  The contracts of taborref05.Set and Of.
  The contract of taborref05.Of.
  The order of members, in plain Lean.
  A ranked set in the heap: its members, one behind the other, and at each height the links. Plain.
  The way down.
  Small ones: less, TrailingZeros, none.
  Links put in and taken out, height by height. Plain.
  A member put in, height by height: what holds below a height, and above. Plain.
  put.
  put, walked.
  A member taken out, height by height. Plain.
  take, walked.
  What a set's map tells; Drop, Len, Set, Score.
  Set, Score, Rank.
  begun, Of.
  from, At, Between.
  At, Between.
  Layer 9: the commands of ranked sets. (Written by gencK.py.)
  Layer 9: Apply once more: what is made of a thing lies in new blocks.
  Layer 9: what was put in is told; plain.
  Layer 9: all of a command's effects are done, whatever is asked; plain.
  Layer 9: SINTER: a map that counts, its keys in order.
  Layer 9: Do, whatever is asked: its effects are all done.
  Layer 9: what was put in is told: the calls. (Written by genct.py.)
  Layer 9: known(), by a walk.
  Layer 9: what is too much.
  Layer 9: the law of what is told (taborlaw09.CollsTold). (Written by gencv.py.)
  The world of a witness: the tables and errors of strconv and math/bits as they are laid.
  Layer 7: things, entries and effects opened.
  Layer 8: strconv's laid variables, as the walks want them; arguments opened.
  Layer 9: the table of math/bits as it is laid.
-/
import Derived.Test.YtjnijlnmbjjgpaaGreatDoorCards
import Derived.Test.YtjnijlnmbjjgpaaGreatDoorTie
import Derived.Deep.DeepHandedRow
import Derived.ProofKit
import Derived.Test.YtjnijlnmbjjgpaaGreatDoorZF9D
namespace Go.Proofs.YtjnijlnmbjjgpaaGreatDoor
open Go Go.Sx C
theorem newL_at {th : ByteArray → Bool} {l : List ByteArray} {q : Nat} (hq : q < l.length) (hb : (!th l[q] && decide (l[q] ∉ l.take q)) = true) : (newL th [] l)[(newL th [] (l.take q)).length]? = some l[q] := by
 have e1 := newL_app (th := th) (a := l.take (q + 1)) (b := l.drop (q + 1)) (pre := [])
 rw [List.take_append_drop, newL_snoc hq, if_pos hb] at e1
 rw [e1, List.append_assoc, List.getElem?_append_right (Nat.le_refl _), Nat.sub_self]
 rfl
section
variable {h0 h h1 h2 h' : Heap} {ab kb sb mb c b1 b2 bs bt mb2 : Nat} {now op kd : Int} {av lv pv lw rv fv v : Value} {key why : ByteArray} {t : Thing} {is : Bool} {A l pre : List ByteArray} {L : List Eff} {m : List KI} {S : Space} {M : List En} {T : List Nat} {res : Res} {th : ByteArray → Bool} {Z : Heap → Prop}
theorem good9 (hi : InS S) : TGood ((getS S key now).getD zeroT) := by
 cases hg : getS S key now with
 |none => exact TGood.zero 0
 |some t => exact (hi _ (getS_mem hg)).good
theorem set_sorted (hi : InS S) (hk : okK 4 (getS S key now) = true) : ((getS S key now).getD zeroT).list.Pairwise fun a b => sless a b = true := by
 cases hg : getS S key now with
 |none => exact List.Pairwise.nil
 |some t =>
  rw [hg] at hk
  exact (hi _ (getS_mem hg)).good.ls (of_decide_eq_true hk)
theorem NoB.as {f : ByteArray → List ByteArray → Thing → Res} {g : List ByteArray → Res} (h : NoB S now A 2 65536 kd why) (hg : ∀ key l, g (key :: l) = if 1 ≤ l.length ∧ l.length < 65536 then kindly S now kd key (f key l) else .error wArgs) (hn : g [] = .error wArgs) : g A = .error why := no_away h hg hn
set_option maxHeartbeats 1000000 in
theorem sadd9 (p : P9 h0 kb sb mb c m S av A) (hs9 : S9 S) (hi : InS S) (hA : ∀ a ∈ A, a.size < 281474976710656) (x : As h0 h (c0 ab kb now av)) : CallsH Tryz.prog 95 [ptr ab] h (Cmd9 h0 h ab kb now av (cSadd S now A)) := by
 refine f95_calls (by simp) ?_
 intro b2 h1 g1
 have w := x.st.new g1
 refine sub9_go (i := 1) x w rfl (fun x => begin9_calls p (by decide) x) ?_ ?_
 rotate_left
 ·rintro why h2 hB c2
  exact bad9 (NoB.as (f := fun key l t => if newL (thereL t.list) [] l = [] then .ok (numR 0, []) else makes S now key (t.list.length + (newL (thereL t.list) [] l).length) ((newL (thereL t.list) [] l).all small) (numR (newL (thereL t.list) [] l).length) ((newL (thereL t.list) [] l).map (addE key))) hB (fun _ _ => rfl) rfl) c2
 rintro _ h2 _ ⟨hb, k0, hk0, hk, p2, w2, r2, rfl⟩ w
 obtain ⟨k9, l, rfl⟩ := cons_of (by decide) hb.1
 cases hk0
 obtain ⟨ba, oa, ac, rfl⟩ := p.argF (by simp)
 have hlc : (k0 :: l).length = l.length + 1 := rfl
 have hc9 : 1 ≤ l.length ∧ l.length < 65536 := ⟨by omega, by omega⟩
 have htl := (hs9.get k0 now).ls
 have hso := set_sorted hi hk
 have hk9 := hA k0 (by simp)
 have he : cSadd S now (k0 :: l) = _ := (if_pos hc9).trans (kindly_ok hk)
 generalize (getS S k0 now).getD zeroT = t at *
 obtain ⟨la, lc, rfl, _⟩ := (w.thc 1 rfl).2.1.form
 obtain ⟨ns, hns⟩ : ∃ ns, ns = newL (thereL t.list) [] l := ⟨_, rfl⟩
 obtain ⟨D, hDe⟩ : ∃ D, D = ns.map (addE k0) := ⟨_, rfl⟩
 have he : cSadd S now (k0 :: l) = if ns = [] then .ok (numR 0, []) else makes S now k0 (t.list.length + ns.length) (ns.all small) (numR ns.length) D := by rw [he, hDe, hns]
 have hDl : D.length = ns.length := by rw [hDe]; exact List.length_map _
 have hnsl : ns.length ≤ l.length := by rw [hns]; exact newL_len
 refine call_ret fresh9_calls ?_
 rintro _ h5 ⟨⟨bs, mb2, bt, rfl, hf, hfb⟩, c5⟩
 have w := w.add (e := frE bs mb2 bt (.func (.func 172) #[ptr ab] #[]) []) c5 hf (fun b hb => hfb b (by simpa [frE, En.fp] using hb))
 refine w.ldc 2 rfl rfl ?_
 have hac := (p.args _ (x.base w)).len.2
 refine Ai (by decide) (Ai (by simp only [List.length_cons]; omega) (Ai (by omega) ?_))
 refine sl_slc (lo := 1) (hi := (k0 :: l).length) encS_len (p.args _ (x.base w)) (by simp) (Nat.le_refl _) fun v1 hv1 => ?_
 have e1 : ((k0 :: l).drop 1).take ((k0 :: l).length - 1) = l := by simp
 rw [e1] at hv1
 have hsl : ∀ {h'}, Chg [] h0 h' → SL encS h' v1 l := fun hc => hv1 _ (p.args _ hc)
 clear hv1
 obtain ⟨va, vc, rfl, _⟩ := (hsl (Chg.refl _)).form
 obtain ⟨vb, vo, rfl⟩ := (hsl (Chg.refl _)).addr (by omega)
 refine loop_intro (fun q : Nat × Nat × Value => [(0, ptr ab), (2, ptr b2), (3, .int .i64 q.2.1), (4, .func (.func 228) #[] #[ptr bs, ptr bt]), (16, .slice (some ⟨vb, vo, none⟩) l.length vc), (17, .int .i64 l.length), (18, .int .i64 q.1)])
  (fun q h' => (q.1 ≤ l.length ∧ q.2.1 = (newL (thereL t.list) [] (l.take q.1)).length ∧ q.2.1 ≤ ns.length ∧ (0 < q.2.1 → ((t.list.length : Int) + q.2.1 ≤ 65536 ∧ k0.size ≤ 1048576)) ∧ (newL (thereL t.list) [] (l.take q.1)).all small = true) ∧
   St (c0 ab kb now (.slice (some ⟨ba, oa, none⟩) (k0 :: l).length ac)).fp h h' [frE bs mb2 bt (.func (.func 172) #[ptr ab] #[]) (l.take q.1), .b b2 [.int .i64 0, .int .i64 0, .string ⟨#[]⟩, .slice none 0 0],
    cE ab kb now (.slice (some ⟨ba, oa, none⟩) (k0 :: l).length ac) k0 t (getS S k0 now).isSome p2 (.slice la t.list.length lc) r2 q.2.2 (accE S k0 now D q.2.1)])
  (fun q => l.length - q.1) (0, 0, nilV) ⟨rfl, rfl, rfl, rfl, rfl, rfl, rfl, trivial⟩ ⟨⟨Nat.zero_le _, rfl, Nat.zero_le _, fun h9 => absurd h9 (by simp), rfl⟩, w⟩ ?_
 rintro ⟨q, n, lv⟩ h6 ⟨⟨hq, hn0, hnn, hfits, hsm⟩, w⟩
 replace hq : q ≤ l.length := hq
 replace hn0 : n = (newL (thereL t.list) [] (l.take q)).length := hn0
 replace hnn : n ≤ ns.length := hnn
 replace hfits : 0 < n → ((t.list.length : Int) + n ≤ 65536 ∧ k0.size ≤ 1048576) := hfits
 replace hsm : (newL (thereL t.list) [] (l.take q)).all small = true := hsm
 refine Ai rfl (Ai (fun hlt => ?_) (fun hge => ?_))
 ·have hlt : q < l.length := by omega
  have htk := List.take_succ_eq_append_getElem hlt
  obtain ⟨s, hs⟩ : ∃ s, s = l[q] := ⟨_, rfl⟩
  rw [← hs] at htk
  have hsl9 : s ∈ l := by rw [hs]; exact List.getElem_mem hlt
  have hsz := hA s (by simp [hsl9])
  refine sl_ix (s := s) (hsl (x.base w)) q rfl (by rw [hs]; exact List.getElem?_eq_getElem hlt) ?_
  refine w.fresh 0 2 rfl rfl (by decide) (tc_member (by omega) hso) (fun _ _ => trivial) (by rw [List.length_take]; omega) fun h7 w => ?_
  rw [← htk] at w
  obtain ⟨bb, hbb⟩ : ∃ bb, bb = (!thereL t.list s && decide (s ∉ l.take q)) := ⟨_, rfl⟩
  have hsn := newL_snoc (th := thereL t.list) hlt
  rw [← hs, ← hbb] at hsn
  have hcnt := newL_cnt (th := thereL t.list) hlt (b := bb) (by rw [← hs]; exact hbb)
  rw [← hbb]
  cases bb with
  |true =>
   have hat := newL_at (th := thereL t.list) hlt (by rw [← hs]; exact hbb.symm)
   rw [← hs, ← hns, ← hn0] at hat
   have hnlt : n < ns.length := (List.getElem?_eq_some_iff.1 hat).1
   have hsns : s ∈ ns := List.mem_of_getElem? hat
   have hD : D[n]? = some { (⟨12, noText, s, noText, 0⟩ : Eff) with key := k0 } := by rw [hDe, List.getElem?_map, hat]; rfl
   have hcnt : (newL (thereL t.list) [] (l.take (q + 1))).length = n + 1 := by rw [hcnt, hn0]; rfl
   have hal := acc_len (S := S) (key := k0) (now := now) D n (by omega)
   have hne : ns ≠ [] := fun e => by rw [e] at hnlt; simp at hnlt
   refine Ai rfl (fun z hz => ?_)
   have hz := add_in hz (by simp only; omega) (by simp only; omega)
   subst hz
   refine w.ldc 2 rfl rfl ?_
   refine Ai rfl (fun z hz => ?_)
   have hz : z = (t.list.length : Int) + (n + 1 : Nat) := hz.trans (wrap_in (by simp only; omega) (by simp only; omega))
   subst hz
   refine sub9_go (i := 2) x w rfl (fun x => put9_calls p ⟨12, noText, s, noText, 0⟩ x (by simp only; omega) (by omega) (by show s.size < _; omega) (by show noText.size < _; decide)) ?_ ?_
   rotate_left
   ·rintro why h8 ⟨hB, rfl⟩ c8
    refine bad9 (he.trans ((if_neg hne).trans (mkNo9 ?_))) c8
    rintro ⟨m1, m2, m3⟩
    exact hB ⟨by omega, m2, small_of9 m3 hsns, by show noText.size ≤ _; decide⟩
   rintro _ h8 _ ⟨hfit, lv8, rfl⟩ w
   rw [acc_put hD] at w
   refine Ai rfl (fun z hz => ?_)
   have hz := add_in hz (by simp only; omega) (by simp only; omega)
   subst hz
   refine Ai rfl (Ei (q + 1, n + 1, lv8) (Ai ⟨rfl, rfl, rfl, rfl, rfl, rfl, rfl, trivial⟩ (Ai ⟨⟨hlt, by rw [hcnt], hnlt, fun _ => ⟨?_, hfit.2.1⟩, ?_⟩, w⟩ (by simp only; omega))))
   ·have := hfit.1
    push_cast at this ⊢
    omega
   ·rw [hsn, if_pos rfl, List.all_append, hsm]
    simp [small]
    exact hfit.2.2.1
  |false =>
   have hcnt : (newL (thereL t.list) [] (l.take (q + 1))).length = n := by rw [hcnt, hn0]; rfl
   refine Ai rfl (fun z hz => ?_)
   have hz := add_in hz (by simp only; omega) (by simp only; omega)
   subst hz
   exact Ai rfl (Ei (q + 1, n, lv) (Ai ⟨rfl, rfl, rfl, rfl, rfl, rfl, rfl, trivial⟩ (Ai ⟨⟨hlt, by rw [hcnt], hnn, hfits, by rw [hsn, if_neg (by decide), List.append_nil]; exact hsm⟩, w⟩ (by simp only; omega))))
 ·have hkl : q = l.length := by omega
  subst hkl
  rw [List.take_length, ← hns] at hn0 hsm
  refine w.callv number9_calls fun h7 w => ?_
  refine w.st1 1 rfl rfl rfl rfl fun h8 w => ?_
  subst hn0
  refine fin9 x w 1 2 rfl rfl ?_
  by_cases hne : ns = []
  ·rw [he, if_pos hne]
   have hD0 : D = [] := List.eq_nil_of_length_eq_zero (by rw [hDl, hne]; rfl)
   rw [hD0, hne]
   rfl
  ·have hD9 : D ≠ [] := fun e => hne (List.eq_nil_of_length_eq_zero (by rw [← hDl, e]; rfl))
   have hpos : 0 < ns.length := List.length_pos_iff.2 hne
   rw [he, if_neg hne, mkOk9 ⟨(hfits hpos).1, (hfits hpos).2, hsm⟩]
   have := acc_all (S := S) (key := k0) (now := now) hD9
   rw [hDl] at this
   rw [show accE S k0 now D (l.length, ns.length, lv).2.1 = dropsS S k0 now ++ D from this]
   rfl
theorem truth9_calls {b : Bool} : CallsH Tryz.prog 173 [.bool b] h (Ret fun r h' => r = repV 3 (if b = true then 1 else 0) noText ∧ Chg [] h h') := by
 refine f173_calls (by simp) ?_
 intro b1 h1 g1
 have w := (St.start h).new g1
 cases b with
 |true =>
  refine w.callv number9_calls fun h2 w => ?_
  refine w.st1 0 rfl rfl rfl rfl fun h3 w => ?_
  exact ⟨_, rfl, cells_blk (w.get 0 rfl), rfl, w.chg⟩
 |false =>
  refine w.callv number9_calls fun h2 w => ?_
  refine w.st1 0 rfl rfl rfl rfl fun h3 w => ?_
  exact ⟨_, rfl, cells_blk (w.get 0 rfl), rfl, w.chg⟩
theorem sis9 (p : P9 h0 kb sb mb c m S av A) (hs9 : S9 S) (hi : InS S) (x : As h0 h (c0 ab kb now av)) : CallsH Tryz.prog 97 [ptr ab] h (Cmd9 h0 h ab kb now av (cSis S now A)) := by
 refine f97_calls (by simp) ?_
 intro b2 h1 g1
 have w := x.st.new g1
 refine sub9_go (i := 1) x w rfl (fun x => begin9_calls p (by decide) x) ?_ ?_
 rotate_left
 ·rintro why h2 hB c2
  exact bad9 (NoB.a2 (f := fun _ n t => .ok (numR (if thereL t.list n = true then 1 else 0), [])) hB) c2
 rintro _ h2 _ ⟨hb, k0, hk0, hk, p2, w2, r2, rfl⟩ w
 obtain ⟨k9, n, rfl⟩ := two_arg hb
 cases hk0
 have he : cSis S now [k0, n] = _ := (show cSis S now [k0, n] = kindly S now 4 k0 (fun t => .ok (numR (if thereL t.list n = true then 1 else 0), [])) from rfl).trans (kindly_ok hk)
 have htl := (hs9.get k0 now).ls
 have hso := set_sorted hi hk
 generalize (getS S k0 now).getD zeroT = t at *
 obtain ⟨b, o, cc, rfl⟩ := p.argF (by simp)
 refine w.ldc 1 rfl rfl ?_
 refine p.ix (x.base w) 1 rfl rfl ?_
 refine w.callv (member9_calls (w.get 1 rfl) (by omega) hso) fun h3 w => ?_
 refine w.callv truth9_calls fun h4 w => ?_
 refine w.st1 0 rfl rfl rfl rfl fun h5 w => ?_
 exact fin9 x w 0 1 rfl rfl he
end
end Go.Proofs.YtjnijlnmbjjgpaaGreatDoor
namespace Go.Proofs.YtjnijlnmbjjgpaaGreatDoor.K5
open Go Go.Sx Go.Proofs.YtjnijlnmbjjgpaaGreatDoor C
def ahead (a b : Rank) : Bool := decide (a.score < b.score) || (decide (a.score = b.score) && sless a.name b.name)
def findR (n : ByteArray) : List Rank → Nat → Int
 |[], _ => -1
 |r :: l, i => if r.name = n then i else findR n l (i + 1)
def sel (p : Rank → Nat → Bool) : List Rank → Nat → List Rank
 |[], _ => []
 |x :: l, i => if p x i then x :: sel p l (i + 1) else sel p l (i + 1)
def dropR (n : ByteArray) (l : List Rank) : List Rank := sel (fun x _ => decide (x.name ≠ n)) l 0
def upto (x : Rank) : List Rank → Nat
 |[] => 0
 |y :: l => if ahead y x then upto x l + 1 else 0
theorem upto_le (x : Rank) : ∀ l, upto x l ≤ l.length
 |[] => by simp [upto]
 |y :: l => by
  have := upto_le x l
  simp only [upto]; split <;> simp; omega
def insR (x : Rank) (l : List Rank) : List Rank := l.take (upto x l) ++ x :: l.drop (upto x l)
def setR (l : List Rank) (x : Rank) : List Rank := insR x (dropR x.name l)
def setErr (l : List Rank) (x : Rank) : Bool := decide (1048576 < x.name.size) || (decide (findR x.name l 0 < 0) && decide (65536 ≤ l.length))
def ofGo : List Rank → List Rank → Option (List Rank)
 |out, [] => some out
 |out, x :: l => if 0 ≤ findR x.name out 0 then none else ofGo (if setErr out x then out else setR out x) l
def ofErr (l : List Rank) : Int :=
 if 65536 < l.length then 3 else if l.any (fun x => decide (1048576 < x.name.size)) then 3 else if (ofGo [] l).isNone then 2 else 0
def ofR (l : List Rank) : List Rank := if ofErr l = 0 then (ofGo [] l).getD [] else []
theorem insR_len (x : Rank) (l : List Rank) : (insR x l).length = l.length + 1 := by
 have := upto_le x l
 simp [insR]; omega
theorem any_drop {p : Rank → Bool} {l : List Rank} {k : Nat} (h : k < l.length) (hp : p l[k] = true) : l.any p = true :=
 List.any_eq_true.2 ⟨l[k], List.getElem_mem h, hp⟩
theorem ahead_iff (a b : Rank) : ahead a b = true ↔ a.score < b.score ∨ (a.score = b.score ∧ sless a.name b.name = true) := by simp [ahead]
theorem ahead_trans {a b c : Rank} (h1 : ahead a b = true) (h2 : ahead b c = true) : ahead a c = true := by
 rw [ahead_iff] at *
 rcases h1 with h1 | ⟨h1, h1'⟩ <;> rcases h2 with h2 | ⟨h2, h2'⟩
 ·left; omega
 ·left; omega
 ·left; omega
 ·right; exact ⟨by omega, sless_trans h1' h2'⟩
theorem ahead_total {a b : Rank} (h : a.name ≠ b.name) : ahead a b = true ∨ ahead b a = true := by
 rw [ahead_iff, ahead_iff]
 by_cases e : a.score = b.score
 ·rcases sless_total h with h | h
  ·left; right; exact ⟨e, h⟩
  ·right; right; exact ⟨e.symm, h⟩
 ·rcases Int.lt_or_gt_of_ne e with h | h
  ·left; left; exact h
  ·right; left; exact h
def Sorted (l : List Rank) : Prop := l.Pairwise fun a b => ahead a b = true
theorem upto_iff {x : Rank} : ∀ {l : List Rank}, Sorted l → ∀ (k : Nat) (hk : k < l.length), ahead l[k] x = true ↔ k < upto x l
 |[], _, k, hk => by simp at hk
 |y :: l, hs, 0, hk => by
  simp only [List.getElem_cons_zero, upto]
  split <;> simp_all
 |y :: l, hs, k + 1, hk => by
  have ⟨h1, h2⟩ := List.pairwise_cons.1 hs
  have ih := upto_iff (x := x) h2 k (by simpa using hk)
  simp only [List.getElem_cons_succ, upto]
  split
  ·rw [ih]; omega
  ·rename_i hy
   constructor
   ·intro h
    exact absurd (ahead_trans (h1 _ (List.getElem_mem _)) h) hy
   ·intro h; omega
theorem sorted_app {a b : List Rank} : Sorted (a ++ b) ↔ Sorted a ∧ Sorted b ∧ ∀ x ∈ a, ∀ y ∈ b, ahead x y = true := List.pairwise_append
theorem insR_sorted {x : Rank} {l : List Rank} (hs : Sorted l) (hn : ∀ y ∈ l, y.name ≠ x.name) : Sorted (insR x l) := by
 have hl : l.take (upto x l) ++ l.drop (upto x l) = l := List.take_append_drop ..
 have hs2 := hs
 rw [← hl, sorted_app] at hs2
 obtain ⟨h1, h2, h3⟩ := hs2
 have ha : ∀ y ∈ l.take (upto x l), ahead y x = true := by
  intro y hy
  obtain ⟨k, hk, rfl⟩ := List.getElem_of_mem hy
  have hk2 : k < upto x l ∧ k < l.length := by simp at hk; omega
  rw [List.getElem_take]
  exact (upto_iff hs k hk2.2).2 hk2.1
 have hb : ∀ y ∈ l.drop (upto x l), ahead x y = true := by
  intro y hy
  obtain ⟨k, hk, rfl⟩ := List.getElem_of_mem hy
  have hk2 : upto x l + k < l.length := by simp at hk; omega
  rw [List.getElem_drop]
  rcases ahead_total (hn _ (List.getElem_mem hk2)) with h | h
  ·have := (upto_iff hs _ hk2).1 h; omega
  ·exact h
 unfold insR
 rw [sorted_app]
 refine ⟨h1, List.pairwise_cons.2 ⟨hb, h2⟩, fun y hy z hz => ?_⟩
 rcases List.mem_cons.1 hz with rfl | hz
 ·exact ha y hy
 ·exact h3 y hy z hz
def Names (l : List Rank) : Prop := (l.map Rank.name).Nodup
theorem sel_all {p : Rank → Nat → Bool} : ∀ {l : List Rank} {i : Nat}, (∀ x ∈ l, ∀ j, p x j = true) → sel p l i = l
 |[], _, _ => rfl
 |x :: l, i, h => by
  simp only [sel, h x (by simp) i, if_true]
  rw [sel_all fun y hy => h y (by simp [hy])]
theorem dropR_none {n : ByteArray} {l : List Rank} (h : ∀ y ∈ l, y.name ≠ n) : dropR n l = l :=
 sel_all fun x hx _ => by simpa using h x hx
theorem findR_none {n : ByteArray} : ∀ {l : List Rank} {i : Nat}, (∀ y ∈ l, y.name ≠ n) → findR n l i = -1
 |[], _, _ => rfl
 |x :: l, i, h => by
  simp only [findR]
  rw [if_neg (h x (by simp)), findR_none fun y hy => h y (by simp [hy])]
theorem findR_mid {x : Rank} : ∀ {a b : List Rank} {i : Nat}, Names (a ++ x :: b) → findR x.name (a ++ x :: b) i = i + a.length
 |[], b, i, _ => by simp [findR]
 |y :: a, b, i, h => by
  have h' : Names (a ++ x :: b) := (List.nodup_cons.1 h).2
  have hy : y.name ≠ x.name := fun e => (List.nodup_cons.1 h).1 (by rw [e]; simp)
  simp only [List.cons_append, findR]
  rw [if_neg hy, findR_mid h']
  simp; omega
theorem insR_names {x : Rank} {l : List Rank} (hs : Names l) (hn : ∀ y ∈ l, y.name ≠ x.name) : Names (insR x l) := by
 have hp : (insR x l).Perm (x :: l) := by
  unfold insR
  refine List.perm_middle.trans ?_
  rw [List.take_append_drop]
 have := hp.map Rank.name
 unfold Names
 rw [this.nodup_iff]
 simp only [List.map_cons, List.nodup_cons]
 refine ⟨fun h => ?_, hs⟩
 obtain ⟨y, hy, e⟩ := List.mem_map.1 h
 exact hn y hy e
structure Nd where
 mb : Nat
 lb : Nat
 ht : Nat
 r : Rank
def Nd.row (a : Nd) : List Value := encR a.r ++ [.slice (some ⟨a.lb, 0, none⟩) a.ht a.ht]
structure NodeOK (h : Heap) (a : Nd) : Prop where
 m : Blk h a.mb a.row
 l : ∃ lk, Blk h a.lb lk ∧ lk.length = 2 * a.ht
 pos : 1 ≤ a.ht
 top : a.ht ≤ 16
def link (h : Heap) (a : Nd) (hh : Nat) (to : Value) (w : Int) : Prop :=
 cell h a.lb (2 * hh) = some to ∧ cell h a.lb (2 * hh + 1) = some (.int .i64 w)
def lead (h : Heap) (hh : Nat) (a : Nd) (i : Nat) : List (Nd × Nat) → Prop
 |[] => ∃ w, link h a hh (.pointer none) w
 |(b, k) :: _ => link h a hh (ptr b.mb) ((k : Int) - i)
def LvL (h : Heap) (hh : Nat) : List (Nd × Nat) → Prop
 |[] => True
 |(a, i) :: l => lead h hh a i l ∧ LvL h hh l
def ons (hh : Nat) : Nat → List Nd → List (Nd × Nat)
 |_, [] => []
 |k, a :: l => if hh < a.ht then (a, k) :: ons hh (k + 1) l else ons hh (k + 1) l
theorem ons_app (hh : Nat) : ∀ (k : Nat) (a b : List Nd), ons hh k (a ++ b) = ons hh k a ++ ons hh (k + a.length) b
 |k, [], b => by simp [ons]
 |k, x :: a, b => by
  have ih := ons_app hh (k + 1) a b
  have e : k + (x :: a).length = k + 1 + a.length := by simp; omega
  simp only [List.cons_append, ons, ih, e]
  split <;> simp
theorem ons_mem {hh : Nat} : ∀ {k : Nat} {l : List Nd} {a : Nd} {i : Nat}, (a, i) ∈ ons hh k l → hh < a.ht ∧ k ≤ i ∧ l[i - k]? = some a
 |k, [], a, i, h => by simp [ons] at h
 |k, x :: l, a, i, h => by
  simp only [ons] at h
  have key : (a, i) ∈ ons hh (k + 1) l → hh < a.ht ∧ k ≤ i ∧ (x :: l)[i - k]? = some a := by
   intro h
   obtain ⟨h1, h2, h3⟩ := ons_mem h
   refine ⟨h1, by omega, ?_⟩
   have e : i - k = (i - (k + 1)) + 1 := by omega
   rw [e]; simpa using h3
  split at h
  ·rename_i hx
   rcases List.mem_cons.1 h with h | h
   ·cases h; simp [hx]
   ·exact key h
  ·exact key h
theorem mem_ons {hh : Nat} : ∀ {k : Nat} {l : List Nd} {a : Nd} {i : Nat}, hh < a.ht → l[i]? = some a → (a, k + i) ∈ ons hh k l
 |k, [], a, i, _, h => by simp at h
 |k, x :: l, a, 0, hh', h => by
  simp at h; subst h
  simp [ons, hh']
 |k, x :: l, a, i + 1, hh', h => by
  have ih := mem_ons (k := k + 1) hh' (show l[i]? = some a by simpa using h)
  have e : k + (i + 1) = k + 1 + i := by omega
  simp only [ons, e]
  split
  ·exact List.mem_cons_of_mem _ ih
  ·exact ih
theorem ons_low {hh hh' : Nat} (hl : hh' ≤ hh) {k : Nat} {l : List Nd} {a : Nd} {i : Nat} (h : (a, i) ∈ ons hh k l) : (a, i) ∈ ons hh' k l := by
 obtain ⟨h1, h2, h3⟩ := ons_mem h
 have := mem_ons (hh := hh') (k := k) (by omega) h3
 have e : k + (i - k) = i := by omega
 rw [e] at this; exact this
theorem ons_rise {hh : Nat} : ∀ {k : Nat} {l : List Nd}, (ons hh k l).Pairwise fun x y => x.2 < y.2
 |k, [] => by simp [ons]
 |k, x :: l => by
  have ih := @ons_rise hh (k + 1) l
  simp only [ons]
  split
  ·refine List.pairwise_cons.2 ⟨fun y hy => ?_, ih⟩
   have := (ons_mem (a := y.1) (i := y.2) hy).2.1
   simp only; omega
  ·exact ih
def Seg (h : Heap) (hh : Nat) : List (Nd × Nat) → (Nd × Nat) → Prop
 |[], _ => True
 |(a, i) :: l, y => lead h hh a i (l ++ [y]) ∧ Seg h hh l y
theorem lead_head {h : Heap} {hh : Nat} {a : Nd} {i : Nat} {l : List (Nd × Nat)} {y : Nd × Nat} {r : List (Nd × Nat)} : lead h hh a i (l ++ y :: r) ↔ lead h hh a i (l ++ [y]) := by
 cases l <;> obtain ⟨b, k⟩ := y <;> simp [lead]
theorem lvl_app {h : Heap} {hh : Nat} {y : Nd × Nat} {r : List (Nd × Nat)} : ∀ {l : List (Nd × Nat)}, LvL h hh (l ++ y :: r) ↔ Seg h hh l y ∧ LvL h hh (y :: r)
 |[] => by simp [Seg]
 |(a, i) :: l => by
  have ih := @lvl_app h hh y r l
  simp only [List.cons_append, LvL, Seg, ih, lead_head, and_assoc]
theorem link_keep {h h' : Heap} {hh : Nat} {a : Nd} (e : ∀ o, o = 2 * hh ∨ o = 2 * hh + 1 → cell h' a.lb o = cell h a.lb o) {to : Value} {w : Int} (hl : link h a hh to w) : link h' a hh to w :=
 ⟨by rw [e _ (Or.inl rfl)]; exact hl.1, by rw [e _ (Or.inr rfl)]; exact hl.2⟩
theorem lead_keep {h h' : Heap} {hh : Nat} {a : Nd} {i : Nat} {l : List (Nd × Nat)} (e : ∀ o, o = 2 * hh ∨ o = 2 * hh + 1 → cell h' a.lb o = cell h a.lb o) (hl : lead h hh a i l) : lead h' hh a i l := by
 cases l with
 |nil => obtain ⟨w, hw⟩ := hl; exact ⟨w, link_keep e hw⟩
 |cons y l => obtain ⟨b, k⟩ := y; exact link_keep e hl
theorem lvl_keep {h h' : Heap} {hh : Nat} : ∀ {l : List (Nd × Nat)}, (∀ x ∈ l, ∀ o, o = 2 * hh ∨ o = 2 * hh + 1 → cell h' x.1.lb o = cell h x.1.lb o) → LvL h hh l → LvL h' hh l
 |[], _, _ => trivial
 |(a, i) :: l, e, hl => ⟨lead_keep (e (a, i) (by simp)) hl.1, lvl_keep (fun x hx => e x (by simp [hx])) hl.2⟩
theorem seg_keep {h h' : Heap} {hh : Nat} {y : Nd × Nat} : ∀ {l : List (Nd × Nat)}, (∀ x ∈ l, ∀ o, o = 2 * hh ∨ o = 2 * hh + 1 → cell h' x.1.lb o = cell h x.1.lb o) → Seg h hh l y → Seg h' hh l y
 |[], _, _ => trivial
 |(a, i) :: l, e, hl => ⟨lead_keep (e (a, i) (by simp)) hl.1, seg_keep (fun x hx => e x (by simp [hx])) hl.2⟩
def up1 (l : List (Nd × Nat)) : List (Nd × Nat) := l.map fun x => (x.1, x.2 + 1)
theorem ons_up (hh : Nat) : ∀ (k : Nat) (l : List Nd), ons hh (k + 1) l = up1 (ons hh k l)
 |k, [] => rfl
 |k, x :: l => by
  have ih := ons_up hh (k + 1) l
  simp only [ons, ih]
  split <;> simp [up1]
theorem lead_up {h : Heap} {hh : Nat} {a : Nd} {i : Nat} {l : List (Nd × Nat)} : lead h hh a (i + 1) (up1 l) ↔ lead h hh a i l := by
 cases l with
 |nil => simp [up1, lead]
 |cons y l =>
  obtain ⟨b, k⟩ := y
  have e : ((k + 1 : Nat) : Int) - ((i + 1 : Nat) : Int) = k - i := by omega
  simp only [up1, List.map_cons, lead, e]
theorem lvl_up {h : Heap} {hh : Nat} : ∀ {l : List (Nd × Nat)}, LvL h hh (up1 l) ↔ LvL h hh l
 |[] => by simp [up1]
 |(a, i) :: l => by
  have ih := @lvl_up h hh l
  have h1 := @lead_up h hh a i l
  have e : up1 ((a, i) :: l) = (a, i + 1) :: up1 l := rfl
  rw [e]
  simp only [LvL, ih, h1]
def LastOn (hh : Nat) (A : List Nd) (p : Nd) (i : Nat) : Prop := ∃ l, ons hh 0 A = l ++ [(p, i)]
theorem LastOn.mem {hh : Nat} {A : List Nd} {p : Nd} {i : Nat} (hl : LastOn hh A p i) : (p, i) ∈ ons hh 0 A := by
 obtain ⟨l, e⟩ := hl; rw [e]; simp
theorem LastOn.get {hh : Nat} {A : List Nd} {p : Nd} {i : Nat} (hl : LastOn hh A p i) : hh < p.ht ∧ A[i]? = some p := by
 obtain ⟨h1, _, h3⟩ := ons_mem hl.mem
 exact ⟨h1, by simpa using h3⟩
theorem next_cases {h : Heap} {hh : Nat} {A B : List Nd} (hL : LvL h hh (ons hh 0 (A ++ B))) {a : Nd} {i : Nat} (ha : (a, i) ∈ ons hh 0 A) :
  ((∃ w, link h a hh (.pointer none) w) ∧ LastOn hh A a i) ∨
  (∃ (b : Nd) (k : Nat), link h a hh (ptr b.mb) ((k : Int) - i) ∧ i < k ∧ k < A.length ∧ (b, k) ∈ ons hh 0 A) ∨
  (∃ (b : Nd) (k : Nat), link h a hh (ptr b.mb) ((k : Int) - i) ∧ A.length ≤ k ∧ (A ++ B)[k]? = some b ∧ LastOn hh A a i) := by
 obtain ⟨l, r, e⟩ := List.append_of_mem ha
 have hrise := @ons_rise hh 0 A
 rw [ons_app, e, List.append_assoc, List.cons_append, lvl_app] at hL
 have hl := hL.2.1
 cases r with
 |cons y r =>
  obtain ⟨b, k⟩ := y
  right; left
  have hm : (b, k) ∈ ons hh 0 A := by rw [e]; simp
  obtain ⟨h1, _, h3⟩ := ons_mem hm
  refine ⟨b, k, hl, ?_, ?_, hm⟩
  ·rw [e, List.pairwise_append] at hrise
   exact (List.pairwise_cons.1 hrise.2.1).1 (b, k) (by simp)
  ·have := (List.getElem?_eq_some_iff.1 h3).1; omega
 |nil =>
  have hlast : LastOn hh A a i := ⟨l, e⟩
  cases hB : ons hh (0 + A.length) B with
  |nil => rw [hB] at hl; exact Or.inl ⟨hl, hlast⟩
  |cons y r =>
   obtain ⟨b, k⟩ := y
   rw [hB] at hl
   right; right
   obtain ⟨h1, h2, h3⟩ := ons_mem (show (b, k) ∈ ons hh (0 + A.length) B by rw [hB]; simp)
   refine ⟨b, k, hl, by omega, ?_, hlast⟩
   rw [List.getElem?_append_right (by omega)]
   simpa using h3
theorem NodeOK.ext {h h' : Heap} {a : Nd} (hn : NodeOK h a) (hc : Chg [] h h') : NodeOK h' a :=
 ⟨hn.m.chg hc (by simp), let ⟨lk, h1, h2⟩ := hn.l; ⟨lk, h1.chg hc (by simp), h2⟩, hn.pos, hn.top⟩
structure RD (h : Heap) (rb mpb : Nat) (N : List Nd) : Prop where
 r : ∃ hd mem, N = hd :: mem ∧ hd.ht = 16 ∧ Blk h rb [ptr hd.mb, .map (some mpb)]
 ok : ∀ a ∈ N, NodeOK h a
 lv : ∀ hh < 16, LvL h hh (ons hh 0 N)
 len : N.length ≤ 65537
theorem mem_of_ons {hh k i : Nat} {N : List Nd} {a : Nd} (h : (a, i) ∈ ons hh k N) : a ∈ N :=
 List.mem_of_getElem? (ons_mem h).2.2
theorem lb_keep {h h' : Heap} {a : Nd} (hn : NodeOK h a) (hc : Chg [] h h') (o : Nat) : cell h' a.lb o = cell h a.lb o := by
 obtain ⟨lk, h1, _⟩ := hn.l
 unfold cell
 rw [hc.old a.lb h1.lt (by simp)]
theorem RD.ext {h h' : Heap} {rb mpb : Nat} {N : List Nd} (rd : RD h rb mpb N) (hc : Chg [] h h') : RD h' rb mpb N where
 r := let ⟨hd, mem, h1, h2, h3⟩ := rd.r; ⟨hd, mem, h1, h2, h3.chg hc (by simp)⟩
 ok a ha := (rd.ok a ha).ext hc
 lv hh h1 := lvl_keep (fun x hx o _ => lb_keep (rd.ok x.1 (mem_of_ons (i := x.2) hx)) hc o) (rd.lv hh h1)
 len := rd.len
def PathOK (h : Heap) (pb : Nat) (A : List Nd) : Prop :=
 ∃ pl, Blk h pb pl ∧ ∀ hh < 16, ∃ p i, LastOn hh A p i ∧ pl[hh]? = some (ptr p.mb) ∧ pl[16 + hh]? = some (.int .i64 i)
def AskP (fi cap : Array Value) (f : Nat) (h : Heap) (N : List Nd) (K : Nat) : Prop :=
 ∀ h' k a, Chg [] h h' → N[k]? = some a → 1 ≤ k → CallsH Tryz.prog f (fi.toList ++ [.agg ⟨encR a.r⟩, .int .i64 ((k : Int) - 1)] ++ cap.toList) h' (Ret fun u h'' => u = .bool (decide (k < K)) ∧ Chg [] h' h'')
theorem down_round {Q : Post} {h h1 : Heap} {rb mpb f : Nat} {fi cap : Array Value} {N A B : List Nd} (rd : RD h rb mpb N) (hN : N = A ++ B) (hP : AskP fi cap f h N A.length) (hc1 : Chg [] h h1)
  {hh : Nat} (hhlt : hh < 16) {pb : Nat} {pl : List Value} (hpb : Blk h1 pb pl) (hpl : pl.length = 32) (hnew : h.size ≤ pb) {σ : Env} {a : Nd} {i : Nat}
  (hσ : SubL σ [(1, .func (.func f) fi cap), (5, ptr pb), (6, ptr a.mb), (7, .int .i64 i), (8, .int .i64 hh)]) (ha : (a, i) ∈ ons hh 0 A)
  (hQ : ∀ (σ' : Env) (a' : Nd) (i' : Nat) (h' : Heap), SubL σ' [(1, .func (.func f) fi cap), (5, ptr pb), (6, ptr a'.mb), (7, .int .i64 i'), (8, .int .i64 hh)] → LastOn hh A a' i' → Chg [] h h' →
   Blk h' pb (splice (splice pl hh [ptr a'.mb]) (16 + hh) [.int .i64 i']) → Q .normal σ' [] h') :
  swp Tryz.prog (.seq (.block 2 (.loop f241l8)) (.ops f241r9)) Q σ [] h1 := by
 have hlen := rd.len
 refine loop_intro (fun x : Nd × Nat => [(1, .func (.func f) fi cap), (5, ptr pb), (6, ptr x.1.mb), (7, .int .i64 x.2), (8, .int .i64 hh)])
  (fun x h' => x ∈ ons hh 0 A ∧ Chg [] h h' ∧ Blk h' pb pl) (fun x => A.length - x.2) (a, i) hσ ⟨ha, hc1, hpb⟩ ?_
 rintro ⟨b, k⟩ h2 ⟨hb, hc2, hpb2⟩
 have rd2 := rd.ext hc2
 have hbA := ons_mem hb
 have hbN : b ∈ N := by rw [hN]; exact List.mem_append_left _ (mem_of_ons hb)
 have ok := rd2.ok b hbN
 have hk : k < A.length := by have := (List.getElem?_eq_some_iff.1 hbA.2.2).1; omega
 have hAlen : A.length ≤ N.length := by rw [hN]; simp
 have hlv := rd2.lv hh hhlt
 rw [hN] at hlv
 have hnext := next_cases hlv hb
 -- leaving
 have fin : ∀ (σ' : Env) (h3 : Heap), LastOn hh A b k → Chg [] h2 h3 → SubL σ' [(1, .func (.func f) fi cap), (5, ptr pb), (6, ptr b.mb), (7, .int .i64 k), (8, .int .i64 hh)] →
   ∀ h4 h5, Put h3 h4 pb (splice pl (0 + 0 + hh * 1) [ptr b.mb]) → Put h4 h5 pb (splice (splice pl (0 + 0 + hh * 1) [ptr b.mb]) (0 + 16 + hh * 1) [.int .i64 k]) → Q .normal σ' [] h5 := by
  intro σ' h3 hlast hc3 hs h4 h5 p4 p5
  have e1 : 0 + 0 + hh * 1 = hh := by omega
  have e2 : 0 + 16 + hh * 1 = 16 + hh := by omega
  rw [e1] at p4 p5
  rw [e2] at p5
  have hc0 : Chg [] h h3 := hc2.nil hc3
  refine hQ σ' b k h5 hs hlast ?_ p5.blk
  exact (hc0.fresh p4.chg (by simp; exact hnew)).fresh p5.chg (by simp; exact hnew)
 refine Ei _ (Ai (cell_blk ok.m rfl) ?_)
 refine Ai (by omega) (Ai (by omega) ?_)
 have go : ∀ (to : Value) (w : Int), link h2 b hh to w → cell h2 b.lb (0 + hh * 2) = some to ∧ cell h2 b.lb (0 + hh * 2 + 1) = some (.int .i64 w) := by
  intro to w hl
  have e : 0 + hh * 2 = 2 * hh := by omega
  rw [e]; exact hl
 have cs : ∀ (to : Value) (w : Int), link h2 b hh to w → Cells h2 b.lb (0 + hh * 2) [to, .int .i64 w] := by
  intro to w hl j v hj
  obtain ⟨h1, h2⟩ := go to w hl
  match j, hj with
  |0, hj => simp at hj; subst hj; exact h1
  |1, hj => simp at hj; subst hj; exact h2
 obtain ⟨to, w, hl, hone, hcase⟩ : ∃ to w, link h2 b hh to w ∧ to.oneCell' = true ∧ ((to = .pointer none ∧ LastOn hh A b k) ∨ (∃ (c : Nd) (k' : Nat), to = ptr c.mb ∧ w = (k' : Int) - k ∧ k < k' ∧ N[k']? = some c ∧
   ((k' < A.length ∧ (c, k') ∈ ons hh 0 A) ∨ (A.length ≤ k' ∧ LastOn hh A b k)))) := by
  rcases hnext with ⟨⟨w, hw⟩, hlast⟩ | ⟨c, k', hw, hkk, hkA, hc⟩ | ⟨c, k', hw, hkA, hcN, hlast⟩
  ·exact ⟨_, w, hw, rfl, Or.inl ⟨rfl, hlast⟩⟩
  ·refine ⟨_, _, hw, rfl, Or.inr ⟨c, k', rfl, rfl, hkk, ?_, Or.inl ⟨hkA, hc⟩⟩⟩
   have := (ons_mem hc).2.2
   rw [hN, List.getElem?_append_left hkA]; simpa using this
  ·exact ⟨_, _, hw, rfl, Or.inr ⟨c, k', rfl, rfl, by omega, by rw [hN]; exact hcN, Or.inr ⟨hkA, hlast⟩⟩⟩
 refine Ei [to, .int .i64 w] (Ai rfl (Ai (cs _ _ hl) ?_))
 intro b9 h3 g3
 refine Ei _ (Ai g3.blk (Ai (by decide) (Ai rfl (Ai (ones2 hone rfl) ?_))))
 intro h4 p4
 have g4 := g3.put p4
 have B4 : Blk h4 b9 [to, .int .i64 w] := p4.blk
 have hpb4 := hpb2.chg g4.chg (by simp)
 refine Ei _ (Ai (cell_blk B4 rfl) ?_)
 rcases hcase with ⟨rfl, hlast⟩ | ⟨c, k', rfl, rfl, hkk, hcN, hcase⟩
 ·-- nobody behind
  refine Ai (by omega) (Ai (by omega) ?_)
  refine Ei _ (Ai hpb4 (Ai (by omega) (Ai rfl (Ai (ones1 rfl) ?_))))
  intro h5 p5
  refine Ai (by omega) (Ai (by omega) ?_)
  refine Ei _ (Ai p5.blk (Ai (by rw [splice_size]; omega) (Ai rfl (Ai (ones1 rfl) ?_))))
  intro h6 p6
  exact fin _ h4 hlast g4.chg ⟨rfl, rfl, rfl, rfl, rfl, trivial⟩ h5 h6 p5 p6
 ·refine Ei _ (Ai (cell_blk B4 rfl) ?_)
  have rd4 := rd2.ext g4.chg
  have okc := rd4.ok c (List.mem_of_getElem? hcN)
  refine Ei (encR c.r) (Ai rfl (Ai (cells_part (l := c.row) okc.m ?_) ?_))
  ·intro j v hj
   rw [Nat.zero_add]
   unfold Nd.row
   rw [List.getElem?_append_left (List.getElem?_eq_some_iff.1 hj).1]; exact hj
  refine Ei _ (Ai (cell_blk B4 rfl) ?_)
  have hkN : k' < N.length := (List.getElem?_eq_some_iff.1 hcN).1
  refine Ai rfl (fun z hz => ?_)
  have hz := add_in hz (by omega) (by omega)
  have hz : z = k' := by omega
  subst hz
  refine Ai rfl (fun z hz => ?_)
  have hz := sub_in hz (by omega) (by omega)
  subst hz
  refine call_ret (hP h4 k' c (hc2.nil g4.chg) hcN (by omega)) ?_
  rintro _ h5 ⟨rfl, hc5⟩
  have hc25 : Chg [] h2 h5 := g4.chg.nil hc5
  rcases hcase with ⟨hkA, hcA⟩ | ⟨hkA, hlast⟩
  ·rw [decide_eq_true hkA]
   have B5 := B4.chg hc5 (by simp)
   refine Ei _ (Ai (cell_blk B5 rfl) ?_)
   refine Ei _ (Ai (cell_blk B5 rfl) ?_)
   refine Ai rfl (fun z hz => ?_)
   have hz := add_in hz (by omega) (by omega)
   have hz : z = k' := by omega
   subst hz
   refine Ai rfl (Ei (c, k') (Ai ?_ (Ai ?_ ?_)))
   ·exact ⟨rfl, rfl, rfl, rfl, rfl, trivial⟩
   ·exact ⟨hcA, hc2.nil hc25, hpb2.chg hc25 (by simp)⟩
   ·simp only; omega
  ·rw [decide_eq_false (by omega)]
   have hpb5 := hpb2.chg hc25 (by simp)
   refine Ai (by omega) (Ai (by omega) ?_)
   refine Ei _ (Ai hpb5 (Ai (by omega) (Ai rfl (Ai (ones1 rfl) ?_))))
   intro h6 p6
   refine Ai (by omega) (Ai (by omega) ?_)
   refine Ei _ (Ai p6.blk (Ai (by rw [splice_size]; omega) (Ai rfl (Ai (ones1 rfl) ?_))))
   intro h7 p7
   exact fin _ h5 hlast hc25 ⟨rfl, rfl, rfl, rfl, rfl, trivial⟩ h6 h7 p6 p7
theorem down_calls {h : Heap} {rb mpb f : Nat} {fi cap : Array Value} {N A B : List Nd} (rd : RD h rb mpb N) (hN : N = A ++ B) (hA : A ≠ []) (hP : AskP fi cap f h N A.length) :
  CallsH Tryz.prog 241 [ptr rb, .func (.func f) fi cap] h (Ret fun u h' => ∃ pb, u = ptr pb ∧ h.size ≤ pb ∧ PathOK h' pb A ∧ Chg [] h h') := by
 obtain ⟨hd, mem, hNe, hht, hrb⟩ := rd.r
 have hA0 : A[0]? = some hd := by
  cases A with
  |nil => exact absurd rfl hA
  |cons x A => rw [hNe] at hN; simp at hN; simp [hN.1]
 refine f241_calls (by simp) ?_
 intro pb h1 g1
 have hrb1 := hrb.chg g1.chg (by simp)
 refine Ei _ (Ai (cell_blk hrb1 rfl) ?_)
 refine loop_intro (fun x : Nat × Nd × Nat => [(1, .func (.func f) fi cap), (5, ptr pb), (6, ptr x.2.1.mb), (7, .int .i64 x.2.2), (8, .int .i64 ((x.1 : Int) - 1))])
  (fun x h' => x.1 ≤ 16 ∧ Chg [] h h' ∧ (∀ hh < x.1, (x.2.1, x.2.2) ∈ ons hh 0 A) ∧ ∃ pl, Blk h' pb pl ∧ pl.length = 32 ∧ ∀ hh, x.1 ≤ hh → hh < 16 → ∃ p i, LastOn hh A p i ∧ pl[hh]? = some (ptr p.mb) ∧ pl[16 + hh]? = some (.int .i64 i))
  (fun x => x.1) (16, hd, 0) ⟨rfl, rfl, rfl, rfl, rfl, trivial⟩ ⟨Nat.le_refl _, g1.chg, ?_, _, g1.blk, rfl, fun hh h1 h2 => by omega⟩ ?_
 ·intro hh hlt
  have := mem_ons (hh := hh) (k := 0) (a := hd) (by simp only at hlt; omega) hA0
  simpa using this
 rintro ⟨n, a, i⟩ h2 ⟨hn, hc2, hmem, pl, hpb, hpl, hdone⟩
 simp only at hn hmem hdone
 refine Ai rfl (Ai (fun ht => ?_) (fun ht => ?_))
 ·obtain ⟨hh, rfl⟩ : ∃ hh, n = hh + 1 := ⟨n - 1, by omega⟩
  have e : (((hh + 1 : Nat) : Int) - 1) = hh := by omega
  refine down_round rd hN hP hc2 (hh := hh) (by omega) hpb hpl (by rw [g1.id]; exact Nat.le_refl _) (a := a) (i := i) ?_ (hmem hh (by omega)) ?_
  ·refine ⟨rfl, rfl, rfl, rfl, ?_, trivial⟩
   show some (Value.int .i64 (((hh + 1 : Nat) : Int) - 1)) = _
   rw [e]
  intro σ' a' i' h3 hσ hlast hc3 hpb3
  obtain ⟨s1, s5, s6, s7, s8, _⟩ := hσ
  have hsub : Sub (mk [(1, .func (.func f) fi cap), (5, ptr pb), (6, ptr a'.mb), (7, .int .i64 i'), (8, .int .i64 hh)]) σ' := sub_mk ⟨s1, s5, s6, s7, s8, trivial⟩
  refine sops_sub (P := Tryz.prog) (Qp := fun _ _ => False) (fun ch h hf => hf.elim)
   (K := fun σ1 h4 => SubL σ1 [(1, .func (.func f) fi cap), (5, ptr pb), (6, ptr a'.mb), (7, .int .i64 i'), (8, .int .i64 ((hh : Int) - 1))] ∧ h4 = h3) ?_ f241r10 _ _ _ hsub ?_
  ·rintro σ1 σ2 h4 h12 ⟨hs1, rfl⟩
   have hs2 := hs1.sub h12
   refine Ai rfl (Ei (hh, a', i') (Ai hs2 (Ai ?_ ?_)))
   ·refine ⟨by simp only; omega, hc3, fun hh' hlt => ons_low (by simp only at hlt; omega) hlast.mem, _, hpb3, by simp only [splice_size]; exact hpl, fun hh' h1 h2 => ?_⟩
    simp only at h1
    by_cases e : hh' = hh
    ·subst e
     refine ⟨a', i', hlast, ?_, ?_⟩
     ·rw [splice_get _ _ _ (by rw [splice_size]; simp; omega), if_neg (by simp; omega), splice_get _ _ _ (by simp; omega), if_pos (by simp)]; simp
     ·rw [splice_get _ _ _ (by rw [splice_size]; simp; omega), if_pos (by simp)]; simp
    ·obtain ⟨p, j, h3, h4, h5⟩ := hdone hh' (by omega) h2
     refine ⟨p, j, h3, ?_, ?_⟩
     ·rw [splice_get _ _ _ (by rw [splice_size]; simp; omega), if_neg (by simp; omega), splice_get _ _ _ (by simp; omega), if_neg (by simp; omega)]; exact h4
     ·rw [splice_get _ _ _ (by rw [splice_size]; simp; omega), if_neg (by simp; omega), splice_get _ _ _ (by simp; omega), if_neg (by simp; omega)]; exact h5
   ·simp only; omega
  ·refine Ai rfl (fun z hz => ?_)
   have hz := sub_in hz (by omega) (by omega)
   subst hz
   exact ⟨⟨rfl, rfl, rfl, rfl, rfl, trivial⟩, rfl⟩
 ·have h0 : n = 0 := by omega
  subst h0
  refine ⟨pb, rfl, by rw [g1.id]; exact Nat.le_refl _, ⟨pl, hpb, fun hh hlt => hdone hh (by omega) hlt⟩, hc2⟩
theorem less_calls {h : Heap} (x : Rank) :
  CallsH Tryz.prog 242 [.agg ⟨encR x⟩] h (Ret fun u h' => ∃ b, u = .func (.func 279) #[] #[ptr b] ∧ h.size ≤ b ∧ Blk h' b (encR x) ∧ Chg [] h h') := by
 refine f242_calls (by simp) ?_
 intro b h1 g1
 exact ⟨b, rfl, by rw [g1.id]; exact Nat.le_refl _, g1.blk, g1.chg⟩
theorem less1_calls {h : Heap} {b : Nat} {x : Rank} (B : Blk h b (encR x)) (y : Rank) (v : Value) :
  CallsH Tryz.prog 279 [.agg ⟨encR y⟩, v, ptr b] h (Ret fun u h' => u = .bool (ahead y x) ∧ Chg [] h h') := by
 refine f279_calls (by simp) ?_
 intro b1 h1 g1
 have B1 : Blk h1 b1 (encR y) := g1.blk
 have B2 : Blk h1 b (encR x) := B.chg g1.chg (by simp)
 have hc := g1.chg
 refine Ei _ (Ai (cell_blk B1 rfl) (Ei _ (Ai (cell_blk B2 rfl) ?_)))
 refine Ai rfl (Ai (fun ht => ?_) (fun ht => ?_))
 ·have e : ahead y x = true := by simp [ahead, ht]
  refine Ai ?_ hc
  rw [e]; rfl
 ·refine Ei _ (Ai (cell_blk B1 rfl) (Ei _ (Ai (cell_blk B2 rfl) ?_)))
  refine Ai rfl (Ai (fun he => ?_) (fun he => ?_))
  ·refine Ei _ (Ai (cell_blk B1 rfl) (Ei _ (Ai (cell_blk B2 rfl) ?_)))
   refine Ai (fun hl => ?_) (fun hl => ?_)
   ·have e : ahead y x = true := by simp [ahead, he, hl]
    exact Ai (by rw [e]; rfl) hc
   ·have e : ahead y x = false := by simp [ahead, he, hl]
    exact Ai (by rw [e]; rfl) hc
  ·have e : ahead y x = false := by simp [ahead, ht, he]
   exact Ai (by rw [e]; rfl) hc
def recs (N : List Nd) : List Rank := N.tail.map Nd.r
theorem less_ask {h : Heap} {b : Nat} {x : Rank} (B : Blk h b (encR x)) {N : List Nd} (hs : Sorted (recs N)) : AskP #[] #[ptr b] 279 h N (upto x (recs N) + 1) := by
 intro h' k a hc hk hpos
 obtain ⟨j, rfl⟩ : ∃ j, k = j + 1 := ⟨k - 1, by omega⟩
 have hj : (recs N)[j]? = some a.r := by
  cases N with
  |nil => simp at hk
  |cons y N => simp at hk; simp [recs, hk]
 obtain ⟨hlt, he⟩ := List.getElem?_eq_some_iff.1 hj
 have hiff := upto_iff (x := x) hs j hlt
 rw [he] at hiff
 refine Ret.mono (less1_calls (B.chg hc (by simp)) a.r _) ?_
 rintro _ h'' ⟨rfl, hc'⟩
 refine ⟨?_, hc'⟩
 congr 1
 rw [Bool.eq_iff_iff, hiff]
 simp
def TabH (h : Heap) : Prop := ∀ i < 64, ∃ v : Int, 0 ≤ v ∧ v ≤ 255 ∧ cell h 3 i = some (.int .u8 v)
theorem wrap_u64 (x : Int) : 0 ≤ IntKind.u64.wrap x ∧ IntKind.u64.wrap x < 18446744073709551616 := by
 have e : IntKind.u64.wrap x = x % 18446744073709551616 := by
  simp [IntKind.wrap, IntKind.bits, IntKind.signed]
 rw [e]; omega
theorem and_one {a z : Int} (hz : z = bitw .and .i64 a 1) : 0 ≤ z ∧ z ≤ 1 := by
 have hb : ((BitVec.ofInt IntKind.i64.bits a) &&& (BitVec.ofInt IntKind.i64.bits 1)).toNat ≤ 1 := by
  rw [BitVec.toNat_and]
  exact Nat.le_trans Nat.and_le_right (by decide)
 have : z = IntKind.i64.wrap (((BitVec.ofInt IntKind.i64.bits a) &&& (BitVec.ofInt IntKind.i64.bits 1)).toNat : Nat) := hz
 rw [wrap_in (by omega) (by omega)] at this
 omega
theorem tz64_calls {h : Heap} (ht : TabH h) (v : Int) :
  CallsH Tryz.prog 274 [.int .u64 v] h (Ret fun u h' => (∃ z : Int, u = .int .i64 z ∧ 0 ≤ z ∧ z ≤ 255) ∧ h' = h) := by
 refine f274_calls (by simp) ?_
 refine Ai rfl (Ai (fun he => ?_) (fun he => ?_))
 ·exact ⟨⟨64, rfl, by decide, by decide⟩, rfl⟩
 ·intro n hn
  refine Ai rfl (fun b hb => ?_)
  refine Ai rfl (fun m hm => ?_)
  refine Ai rfl (fun s hs => ?_)
  have hm2 : 0 ≤ m ∧ m < 18446744073709551616 := by rw [hm]; exact wrap_u64 _
  have hs2 : s = m / 288230376151711744 := by
   have : s = m.fdiv (2 ^ 58) := hs
   rw [this, Int.fdiv_eq_ediv_of_nonneg _ (by decide)]; rfl
  have h0 : 0 ≤ s := by omega
  have h1 : s < 64 := by omega
  obtain ⟨v, v0, v1, hv⟩ := ht s.toNat (by omega)
  have e : 0 + s.toNat * 1 = s.toNat := by omega
  refine Ai h0 (Ai h1 (Ei _ (Ai (by rw [e]; exact hv) ?_)))
  intro z hz
  rw [wrap_in (by omega) (by omega)] at hz
  exact ⟨⟨z, rfl, by omega, by omega⟩, rfl⟩
theorem tz_calls {h : Heap} (ht : TabH h) (v : Int) :
  CallsH Tryz.prog 225 [.int .u64 v] h (Ret fun u h' => (∃ z : Int, u = .int .i64 z ∧ 0 ≤ z ∧ z ≤ 255) ∧ h' = h) := by
 refine f225_calls (by simp) ?_
 refine call_ret (tz64_calls ht v) ?_
 rintro _ h' ⟨⟨z, rfl, h0, h1⟩, rfl⟩
 exact ⟨⟨z, rfl, h0, h1⟩, rfl⟩
theorem none_calls {h : Heap} {rb hb : Nat} {m : Value} (hr : Blk h rb [ptr hb, m]) :
  CallsH Tryz.prog 240 [ptr rb] h (Ret fun u h' => u = .bool false ∧ h' = h) := by
 refine f240_calls (by simp) ?_
 refine Ei _ (Ai (cell_blk hr rfl) ?_)
 exact ⟨rfl, rfl⟩
theorem cell_put {h h' : Heap} {b o : Nat} {l vs : List Value} (hl : o + vs.length ≤ l.length) (B : Blk h b l) (p : Put h h' b (splice l o vs)) (b' o' : Nat) :
  cell h' b' o' = if b' = b ∧ o ≤ o' ∧ o' < o + vs.length then vs[o' - o]? else cell h b' o' := by
 by_cases hb : b' = b
 ·subst hb
  obtain ⟨e, he⟩ := p.blk
  obtain ⟨e0, he0⟩ := B
  have h1 : cell h' b' o' = (splice l o vs)[o']? := by simp [cell, he]
  have h2 : cell h b' o' = l[o']? := by simp [cell, he0]
  rw [h1, h2, splice_get l o vs hl o']
  simp
 ·rw [if_neg (by intro h; exact hb h.1)]
  unfold cell
  rw [p.old b' hb]
def Grows (h h' : Heap) (b b' o : Nat) (d : Int) : Prop :=
 ∃ w w', cell h b o = some (.int .i64 w) ∧ cell h' b' o = some (.int .i64 w') ∧ (-70000 ≤ w → w ≤ 70000 → w' = w + d)
def lbs (L : List (Nd × Nat)) : List Nat := L.map fun x => x.1.lb
theorem lbs_mid {l r : List (Nd × Nat)} {y : Nd × Nat} (nd : (lbs (l ++ y :: r)).Nodup) : (∀ x ∈ l, x.1.lb ≠ y.1.lb) ∧ ∀ x ∈ r, x.1.lb ≠ y.1.lb := by
 simp only [lbs, List.map_append, List.map_cons, List.nodup_append, List.nodup_cons] at nd
 obtain ⟨_, ⟨h1, _⟩, h2⟩ := nd
 refine ⟨fun x hx => ?_, fun x hx e => ?_⟩
 ·exact h2 x.1.lb (List.mem_map_of_mem (f := fun x : Nd × Nat => x.1.lb) hx) y.1.lb (by simp)
 ·exact h1 (by rw [← e]; exact List.mem_map_of_mem (f := fun x : Nd × Nat => x.1.lb) hx)
variable {h h' : Heap} {hh : Nat} {l r : List (Nd × Nat)} {p x : Nd} {i K : Nat}
theorem lv_skip (hL : LvL h hh (l ++ (p, i) :: r)) (nd : (lbs (l ++ (p, i) :: r)).Nodup) (hk : ∀ y ∈ l ++ (p, i) :: r, y.2 ≤ 65537)
  (keep : ∀ b o, b ≠ p.lb → cell h' b o = cell h b o) (k0 : cell h' p.lb (2 * hh) = cell h p.lb (2 * hh)) (k1 : Grows h h' p.lb p.lb (2 * hh + 1) 1) : LvL h' hh (l ++ (p, i) :: up1 r) := by
 obtain ⟨n1, n2⟩ := lbs_mid nd
 obtain ⟨hs, hl, hr⟩ := lvl_app.1 hL
 rw [lvl_app]
 refine ⟨seg_keep (fun y hy o _ => keep _ _ (n1 y hy)) hs, ?_, lvl_up.2 (lvl_keep (fun y hy o _ => keep _ _ (n2 y hy)) hr)⟩
 obtain ⟨w, w', e1, e2, e3⟩ := k1
 cases r with
 |nil =>
  obtain ⟨w0, hw⟩ := hl
  exact ⟨w', by rw [k0]; exact hw.1, e2⟩
 |cons y r =>
  obtain ⟨b, k⟩ := y
  refine ⟨by rw [k0]; exact hl.1, ?_⟩
  have hw := hl.2
  rw [e1] at hw
  simp at hw
  have h1 := hk (b, k) (by simp)
  have h2 := hk (p, i) (by simp)
  simp only at h1 h2
  rw [e2, e3 (by omega) (by omega), hw]
  congr 2
  push_cast
  omega
theorem lv_put (hL : LvL h hh (l ++ (p, i) :: r)) (nd : (lbs (l ++ (p, i) :: r)).Nodup) (hx : x.lb ∉ lbs (l ++ (p, i) :: r)) (hk : ∀ y ∈ l ++ (p, i) :: r, y.2 ≤ 65537)
  (keep : ∀ b o, b ≠ p.lb → b ≠ x.lb → cell h' b o = cell h b o) (p0 : cell h' p.lb (2 * hh) = some (ptr x.mb)) (p1 : cell h' p.lb (2 * hh + 1) = some (.int .i64 ((K : Int) - i)))
  (x0 : cell h' x.lb (2 * hh) = cell h p.lb (2 * hh)) (x1 : Grows h h' p.lb x.lb (2 * hh + 1) (i + 1 - (K : Int))) : LvL h' hh (l ++ (p, i) :: (x, K) :: up1 r) := by
 obtain ⟨n1, n2⟩ := lbs_mid nd
 obtain ⟨hs, hl, hr⟩ := lvl_app.1 hL
 have m1 : ∀ y ∈ l, y.1.lb ≠ x.lb := fun y hy e => hx (by rw [← e]; exact List.mem_map_of_mem (f := fun x : Nd × Nat => x.1.lb) (by simp [hy]))
 have m2 : ∀ y ∈ r, y.1.lb ≠ x.lb := fun y hy e => hx (by rw [← e]; exact List.mem_map_of_mem (f := fun x : Nd × Nat => x.1.lb) (by simp [hy]))
 rw [lvl_app]
 refine ⟨seg_keep (fun y hy o _ => keep _ _ (n1 y hy) (m1 y hy)) hs, ⟨p0, p1⟩, ?_, lvl_up.2 (lvl_keep (fun y hy o _ => keep _ _ (n2 y hy) (m2 y hy)) hr)⟩
 obtain ⟨w, w', e1, e2, e3⟩ := x1
 cases r with
 |nil =>
  obtain ⟨w0, hw⟩ := hl
  exact ⟨w', by rw [x0]; exact hw.1, e2⟩
 |cons y r =>
  obtain ⟨b, k⟩ := y
  refine ⟨by rw [x0]; exact hl.1, ?_⟩
  have hw := hl.2
  rw [e1] at hw
  simp at hw
  have h1 := hk (b, k) (by simp)
  have h2 := hk (p, i) (by simp)
  simp only at h1 h2
  rw [e2, e3 (by omega) (by omega), hw]
  congr 2
  push_cast
  omega
end Go.Proofs.YtjnijlnmbjjgpaaGreatDoor.K5
namespace Go.Proofs.YtjnijlnmbjjgpaaGreatDoor.K5
open Go Go.Sx Go.Proofs.YtjnijlnmbjjgpaaGreatDoor C
def lbN (N : List Nd) : List Nat := N.map Nd.lb
theorem lbs_ons (hh : Nat) : ∀ (k : Nat) (N : List Nd), (lbs (ons hh k N)).Sublist (lbN N)
 |k, [] => by simp [lbs, ons, lbN]
 |k, a :: N => by
  have ih := lbs_ons hh (k + 1) N
  simp only [ons]
  split
  ·exact ih.cons_cons _
  ·exact ih.cons _
theorem ons_mid (hh : Nat) (A B : List Nd) (x : Nd) : ons hh 0 (A ++ x :: B) = ons hh 0 A ++ (if hh < x.ht then (x, A.length) :: up1 (ons hh A.length B) else up1 (ons hh A.length B)) := by
 rw [ons_app, Nat.zero_add]
 simp only [ons, ons_up]
theorem ons_both (hh : Nat) (A B : List Nd) : ons hh 0 (A ++ B) = ons hh 0 A ++ ons hh A.length B := by
 rw [ons_app, Nat.zero_add]
structure PI (h2 h' : Heap) (A B : List Nd) (x : Nd) (n : Nat) : Prop where
 chg : Chg (x.lb :: lbN (A ++ B)) h2 h'
 blk : ∀ a ∈ A ++ x :: B, ∃ lk, Blk h' a.lb lk ∧ lk.length = 2 * a.ht
 lv : ∀ hh < 16, LvL h' hh (if hh < n then ons hh 0 (A ++ x :: B) else ons hh 0 (A ++ B))
theorem blk_put {h h' : Heap} {b o m : Nat} {l vs : List Value} (p : Put h h' b (splice l o vs)) {b' : Nat} (hb : ∃ lk, Blk h b' lk ∧ lk.length = m) (e : b' = b → l.length = m) : ∃ lk, Blk h' b' lk ∧ lk.length = m := by
 by_cases hbb : b' = b
 ·exact ⟨_, by rw [hbb]; exact p.blk, by rw [splice_size]; exact e hbb⟩
 ·obtain ⟨lk, ⟨e, he⟩, h2⟩ := hb
  exact ⟨lk, ⟨e, by rw [p.old b' hbb]; exact he⟩, h2⟩
theorem blk_inj {h : Heap} {b : Nat} {l l' : List Value} (h1 : Blk h b l) (h2 : Blk h b l') : l = l' := by
 obtain ⟨e, h1⟩ := h1
 obtain ⟨e', h2⟩ := h2
 rw [h1] at h2
 simp at h2
 exact h2.1
theorem lv_other {h h' : Heap} {n hh : Nat} {L : List (Nd × Nat)} (hne : hh ≠ n) (keep : ∀ b o, o ≠ 2 * n → o ≠ 2 * n + 1 → cell h' b o = cell h b o) (hL : LvL h hh L) : LvL h' hh L :=
 lvl_keep (fun _ _ o ho => keep _ _ (by omega) (by omega)) hL
variable {h2 h h' h'' : Heap} {A B : List Nd} {x p : Nd} {n i : Nat}
theorem PI.mid (hlast : LastOn n A p i) : ∃ l, ons n 0 A = l ++ [(p, i)] ∧ ons n 0 (A ++ B) = l ++ (p, i) :: ons n A.length B ∧
  ons n 0 (A ++ x :: B) = l ++ (p, i) :: (if n < x.ht then (x, A.length) :: up1 (ons n A.length B) else up1 (ons n A.length B)) := by
 obtain ⟨l, e⟩ := hlast
 exact ⟨l, e, by rw [ons_both, e]; simp, by rw [ons_mid, e]; simp⟩
theorem LastOn.memN (hlast : LastOn n A p i) : p ∈ A := mem_of_ons hlast.mem
theorem ons_le {N : List Nd} (hlen : N.length ≤ 65537) {k : Nat} : ∀ y ∈ ons k 0 N, y.2 ≤ 65537 := by
 intro y hy
 have := (List.getElem?_eq_some_iff.1 (ons_mem (a := y.1) (i := y.2) hy).2.2).1
 omega
theorem PI.skip (pi : PI h2 h A B x n) (hn : n < 16) (nd : (x.lb :: lbN (A ++ B)).Nodup) (hlen : (A ++ B).length ≤ 65537) (hlast : LastOn n A p i) (hx : ¬ n < x.ht)
  {lk : List Value} {w w' : Int} (hb : Blk h p.lb lk) (hw : cell h p.lb (2 * n + 1) = some (.int .i64 w)) (hw' : -70000 ≤ w → w ≤ 70000 → w' = w + 1) (hp : Put h h' p.lb (splice lk (2 * n + 1) [.int .i64 w'])) :
  PI h2 h' A B x (n + 1) := by
 obtain ⟨l, e, e1, e2⟩ := PI.mid (B := B) (x := x) hlast
 rw [if_neg hx] at e2
 have hpN : p ∈ A ++ B := List.mem_append_left _ hlast.memN
 obtain ⟨lk0, hb0, hlk⟩ := pi.blk p (by simp [hlast.memN])
 have := blk_inj hb hb0; subst this
 have hpt := hlast.get.1
 have hc := fun b' o' => cell_put (by simp; omega) hb hp b' o'
 simp only [List.length_cons, List.length_nil] at hc
 refine ⟨pi.chg.trans hp.chg (fun k hk => hk) (fun k hk _ => ?_), fun a ha => blk_put hp (pi.blk a ha) fun hab => ?_, fun hh hlt => ?_⟩
 ·simp at hk; subst hk
  exact List.mem_cons_of_mem _ (List.mem_map_of_mem hpN)
 ·obtain ⟨lk1, hb1, hlk1⟩ := pi.blk a ha
  rw [hab] at hb1
  rw [blk_inj hb hb1]; exact hlk1
 ·by_cases hne : hh = n
  ·subst hne
   have hL := pi.lv hh hlt
   rw [if_neg (by omega), e1] at hL
   rw [if_pos (by omega), e2]
   refine lv_skip hL ?_ (by rw [← e1]; exact ons_le hlen) (fun b o hb => ?_) ?_ ⟨w, w', hw, ?_, hw'⟩
   ·rw [← e1]; exact (List.nodup_cons.1 nd).2.sublist (lbs_ons ..)
   ·rw [hc, if_neg (by intro h; exact hb h.1)]
   ·rw [hc, if_neg (by omega)]
   ·rw [hc, if_pos (by omega)]; simp
  ·have hL := pi.lv hh hlt
   have hb : (if hh < n + 1 then ons hh 0 (A ++ x :: B) else ons hh 0 (A ++ B)) = (if hh < n then ons hh 0 (A ++ x :: B) else ons hh 0 (A ++ B)) := by
    by_cases h1 : hh < n
    ·rw [if_pos h1, if_pos (by omega)]
    ·rw [if_neg h1, if_neg (by omega)]
   rw [hb]
   exact lv_other hne (fun b o _ h2 => by rw [hc, if_neg (by omega)]) hL
theorem PI.put (pi : PI h2 h A B x n) (hn : n < 16) (nd : (x.lb :: lbN (A ++ B)).Nodup) (hlen : (A ++ B).length ≤ 65537) (hlast : LastOn n A p i) (hx : n < x.ht)
  {lk xk : List Value} {to : Value} {w w1 w2 : Int} (hb : Blk h p.lb lk) (hxb : Blk h x.lb xk) (hto : cell h p.lb (2 * n) = some to) (hw : cell h p.lb (2 * n + 1) = some (.int .i64 w))
  (hw1 : -70000 ≤ w → w ≤ 70000 → w1 = w - ((A.length : Int) - 1 - i)) (hw2 : w2 = (A.length : Int) - i)
  (hp : Put h h' x.lb (splice xk (2 * n) [to, .int .i64 w1])) (hp2 : Put h' h'' p.lb (splice lk (2 * n) [ptr x.mb, .int .i64 w2])) :
  PI h2 h'' A B x (n + 1) := by
 obtain ⟨l, e, e1, e2⟩ := PI.mid (B := B) (x := x) hlast
 rw [if_pos hx] at e2
 have hpN : p ∈ A ++ B := List.mem_append_left _ hlast.memN
 have hpx : p.lb ≠ x.lb := fun h => (List.nodup_cons.1 nd).1 (by rw [← h]; exact List.mem_map_of_mem hpN)
 obtain ⟨lk0, hb0, hlk⟩ := pi.blk p (by simp [hlast.memN])
 have := blk_inj hb hb0; subst this
 obtain ⟨xk0, hx0, hxk⟩ := pi.blk x (by simp)
 have := blk_inj hxb hx0; subst this
 have hpt := hlast.get.1
 have hb' : Blk h' p.lb lk := by obtain ⟨e, he⟩ := hb; exact ⟨e, by rw [hp.old _ hpx]; exact he⟩
 have hc1 := fun b' o' => cell_put (by simp; omega) hxb hp b' o'
 have hc2 := fun b' o' => cell_put (by simp; omega) hb' hp2 b' o'
 simp only [List.length_cons, List.length_nil] at hc1 hc2
 refine ⟨(pi.chg.trans hp.chg (fun k hk => hk) (fun k hk _ => ?_)).trans hp2.chg (fun k hk => hk) (fun k hk _ => ?_), fun a ha => blk_put hp2 (blk_put hp (pi.blk a ha) fun hab => ?_) fun hab => ?_, fun hh hlt => ?_⟩
 ·simp at hk; subst hk; simp
 ·simp at hk; subst hk
  exact List.mem_cons_of_mem _ (List.mem_map_of_mem hpN)
 ·obtain ⟨lk1, hb1, hlk1⟩ := pi.blk a ha
  rw [hab] at hb1
  rw [blk_inj hxb hb1]; exact hlk1
 ·obtain ⟨lk1, hb1, hlk1⟩ := pi.blk a ha
  rw [hab] at hb1
  rw [blk_inj hb hb1]; exact hlk1
 ·by_cases hne : hh = n
  ·subst hne
   have hL := pi.lv hh hlt
   rw [if_neg (by omega), e1] at hL
   rw [if_pos (by omega), e2]
   refine lv_put (x := x) (K := A.length) hL ?_ ?_ (by rw [← e1]; exact ons_le hlen) (fun b o hb hbx => ?_) ?_ ?_ ?_ ⟨w, w1, hw, ?_, fun h1 h2 => by rw [hw1 h1 h2]; omega⟩
   ·rw [← e1]; exact (List.nodup_cons.1 nd).2.sublist (lbs_ons ..)
   ·rw [← e1]; exact fun h => (List.nodup_cons.1 nd).1 ((lbs_ons ..).subset h)
   ·rw [hc2, if_neg (by intro h; exact hb h.1), hc1, if_neg (by intro h; exact hbx h.1)]
   ·rw [hc2, if_pos (by omega)]; simp
   ·rw [hc2, if_pos (by omega), hw2]; simp
   ·rw [hc2, if_neg (by intro h; exact hpx h.1.symm), hc1, if_pos (by omega), hto]; simp
   ·rw [hc2, if_neg (by intro h; exact hpx h.1.symm), hc1, if_pos (by omega)]; simp
  ·have hL := pi.lv hh hlt
   have hb : (if hh < n + 1 then ons hh 0 (A ++ x :: B) else ons hh 0 (A ++ B)) = (if hh < n then ons hh 0 (A ++ x :: B) else ons hh 0 (A ++ B)) := by
    by_cases h1 : hh < n
    ·rw [if_pos h1, if_pos (by omega)]
    ·rw [if_neg h1, if_neg (by omega)]
   rw [hb]
   exact lv_other hne (fun b o _ h2 => by rw [hc2, if_neg (by omega), hc1, if_neg (by omega)]) hL
end Go.Proofs.YtjnijlnmbjjgpaaGreatDoor.K5
namespace Go.Proofs.YtjnijlnmbjjgpaaGreatDoor.K5
open Go Go.Sx Go.Proofs.YtjnijlnmbjjgpaaGreatDoor C
def blks (rb mpb : Nat) (N : List Nd) : List Nat := rb :: mpb :: (N.map Nd.mb ++ lbN N)
def mapOf (N : List Nd) : List (Value × Value) := N.tail.map fun a => (.string a.r.name, ptr a.mb)
structure RK (h : Heap) (rb mpb : Nat) (N : List Nd) (S : List Rank) : Prop where
 rd : RD h rb mpb N
 dis : (blks rb mpb N).Nodup
 isS : recs N = S
 map : ∃ es c, MapB h mpb es c ∧ (es.map fun e => (e.key, e.val)).Perm (mapOf N)
 sorted : Sorted S
 names : Names S
 tab : TabH h
 no1 : 3 ∉ blks rb mpb N
theorem TabH.chg {S : List Nat} {h h' : Heap} (ht : TabH h) (hc : Chg S h h') (hn : 3 ∉ S) : TabH h' := fun i hi =>
 let ⟨v, h0, h1, h2⟩ := ht i hi
 ⟨v, h0, h1, cell_chg h2 hc hn⟩
theorem RK.ext {h h' : Heap} {rb mpb : Nat} {N : List Nd} {S : List Rank} (rk : RK h rb mpb N S) (hc : Chg [] h h') : RK h' rb mpb N S :=
 ⟨rk.rd.ext hc, rk.dis, rk.isS, let ⟨es, c, h1, h2⟩ := rk.map; ⟨es, c, h1.chg hc (by simp), h2⟩, rk.sorted, rk.names, rk.tab.chg hc (by simp), rk.no1⟩
theorem RK.len {h : Heap} {rb mpb : Nat} {N : List Nd} {S : List Rank} (rk : RK h rb mpb N S) : N.length = S.length + 1 := by
 obtain ⟨hd, mem, rfl, _, _⟩ := rk.rd.r
 rw [← rk.isS]; simp [recs]
theorem RK.lt {h : Heap} {rb mpb : Nat} {N : List Nd} {S : List Rank} (rk : RK h rb mpb N S) : ∀ b ∈ blks rb mpb N, b < h.size := by
 intro b hb
 obtain ⟨hd, mem, hN, _, hrb⟩ := rk.rd.r
 obtain ⟨es, c, hm, _⟩ := rk.map
 simp only [blks, List.mem_cons, List.mem_append, lbN, List.mem_map] at hb
 rcases hb with rfl | rfl | ⟨a, ha, rfl⟩ | ⟨a, ha, rfl⟩
 ·exact hrb.lt
 ·exact hm.lt
 ·exact (rk.rd.ok a ha).m.lt
 ·obtain ⟨lk, hl, _⟩ := (rk.rd.ok a ha).l
  exact hl.lt
theorem dis_parts {rb mpb : Nat} {N : List Nd} (hd : (blks rb mpb N).Nodup) : rb ∉ lbN N ∧ mpb ∉ lbN N ∧ (∀ a ∈ N, a.mb ∉ lbN N) ∧ (lbN N).Nodup ∧ (∀ a ∈ N, a.mb ≠ mpb) ∧ rb ≠ mpb ∧ ∀ a ∈ N, a.mb ≠ rb := by
 simp only [blks, List.nodup_cons, List.mem_cons, List.mem_append, List.nodup_append, not_or] at hd
 obtain ⟨⟨h0, h1, h2⟩, ⟨h3, h4⟩, h5, h6, h7⟩ := hd
 refine ⟨h2, h4, fun a ha h => ?_, h6, fun a ha e => h3 (by rw [← e]; exact List.mem_map_of_mem ha), h0, fun a ha e => h1 (by rw [← e]; exact List.mem_map_of_mem ha)⟩
 exact h7 a.mb (List.mem_map_of_mem ha) a.mb h rfl
theorem lbN_sub {rb mpb : Nat} {N : List Nd} : ∀ b ∈ lbN N, b ∈ blks rb mpb N := fun b hb => by simp [blks, hb]
theorem blks_mid {rb mpb : Nat} {A B : List Nd} {x : Nd} : (blks rb mpb (A ++ x :: B)).Perm (x.mb :: x.lb :: blks rb mpb (A ++ B)) := by
 have h1 : ((A ++ x :: B).map Nd.mb ++ lbN (A ++ x :: B)).Perm (x.mb :: x.lb :: ((A ++ B).map Nd.mb ++ lbN (A ++ B))) := by
  have e1 : ((A ++ x :: B).map Nd.mb).Perm (x.mb :: (A ++ B).map Nd.mb) := by simp [List.perm_middle]
  have e2 : (lbN (A ++ x :: B)).Perm (x.lb :: lbN (A ++ B)) := by simp [lbN, List.perm_middle]
  refine (e1.append e2).trans ?_
  rw [List.cons_append]
  exact List.perm_middle.cons _
 unfold blks
 refine ((h1.cons mpb).cons rb).trans ?_
 have e3 : ∀ (a b c d : Nat) (l : List Nat), (a :: b :: c :: d :: l).Perm (c :: d :: a :: b :: l) := by
  intro a b c d l
  have := (List.perm_append_comm (l₁ := [a, b]) (l₂ := [c, d])).append_right l
  simpa using this
 exact e3 ..
theorem split_at {h : Heap} {rb mpb : Nat} {N : List Nd} {S : List Rank} (rk : RK h rb mpb N S) {K : Nat} (hK : K ≤ S.length) :
  N = N.take (K + 1) ++ N.drop (K + 1) ∧ (N.take (K + 1)).length = K + 1 ∧ (∃ hd A', N.take (K + 1) = hd :: A' ∧ A'.map Nd.r = S.take K) ∧ (N.drop (K + 1)).map Nd.r = S.drop K := by
 have hl := rk.len
 obtain ⟨hd, mem, rfl, _, _⟩ := rk.rd.r
 have hr : mem.map Nd.r = S := rk.isS
 simp at hl
 refine ⟨(List.take_append_drop ..).symm, by simp; omega, ⟨hd, mem.take K, rfl, ?_⟩, ?_⟩
 ·rw [List.map_take, hr]
 ·rw [List.drop_succ_cons, List.map_drop, hr]
theorem RK.put {h h' : Heap} {rb mpb : Nat} {A B : List Nd} {S : List Rank} {x : Nd} (rk : RK h rb mpb (A ++ B) S) (hA : A ≠ []) {es : List MapEntry} {c c' : Nat} (hmap : (es.map fun e => (e.key, e.val)).Perm (mapOf (A ++ B)))
  (hrd : RD h' rb mpb (A ++ x :: B)) (hm : MapB h' mpb (es ++ [{ key := .string x.r.name, val := ptr x.mb, born := c }]) c') (hrec : recs (A ++ x :: B) = insR x.r S) (hn : ∀ y ∈ S, y.name ≠ x.r.name)
  (hf : x.mb ∉ blks rb mpb (A ++ B) ∧ x.lb ∉ blks rb mpb (A ++ B) ∧ x.mb ≠ x.lb) (ht : TabH h') (h1 : x.mb ≠ 3 ∧ x.lb ≠ 3) : RK h' rb mpb (A ++ x :: B) (insR x.r S) where
 rd := hrd
 dis := by
  rw [blks_mid.nodup_iff, List.nodup_cons, List.nodup_cons]
  exact ⟨by simp [hf.2.2, hf.1], hf.2.1, rk.dis⟩
 isS := hrec
 map := by
  refine ⟨_, _, hm, ?_⟩
  obtain ⟨hd, A', rfl⟩ := List.exists_cons_of_ne_nil hA
  simp only [List.map_append, List.map_cons, List.map_nil]
  have e : (mapOf (hd :: A' ++ x :: B)).Perm ((.string x.r.name, ptr x.mb) :: mapOf (hd :: A' ++ B)) := by
   simp only [mapOf, List.cons_append, List.tail_cons, List.map_append, List.map_cons]
   exact List.perm_middle
  refine (hmap.append_right _).trans (List.Perm.trans ?_ e.symm)
  exact List.perm_append_comm
 sorted := insR_sorted rk.sorted hn
 names := insR_names rk.names hn
 tab := ht
 no1 := by
  rw [blks_mid.mem_iff]
  simp only [List.mem_cons, not_or]
  exact ⟨h1.1.symm, h1.2.symm, rk.no1⟩
theorem lead_ptr {h : Heap} {hh : Nat} {a : Nd} {i : Nat} {L : List (Nd × Nat)} (hl : lead h hh a i L) : ∃ q w, link h a hh (.pointer q) w := by
 cases L with
 |nil => obtain ⟨w, hw⟩ := hl; exact ⟨none, w, hw⟩
 |cons y r => obtain ⟨b, k⟩ := y; exact ⟨_, _, hl⟩
theorem PI.link {h2 h : Heap} {A B : List Nd} {x p : Nd} {n i : Nat} (pi : PI h2 h A B x n) (hn : n < 16) (hlast : LastOn n A p i) : ∃ q w, link h p n (.pointer q) w := by
 obtain ⟨l, e, e1, e2⟩ := PI.mid (B := B) (x := x) hlast
 have hL := pi.lv n hn
 rw [if_neg (by omega), e1] at hL
 exact lead_ptr (lvl_app.1 hL).2.1
theorem last_low {A : List Nd} (hA : ∀ a ∈ A, 1 ≤ a.ht) {p : Nd} {i : Nat} (hl : LastOn 0 A p i) : i = A.length - 1 := by
 obtain ⟨l, e⟩ := hl
 have hmem : (p, i) ∈ ons 0 0 A := by rw [e]; simp
 have h1 := (ons_mem hmem).2.2
 have hi := (List.getElem?_eq_some_iff.1 h1).1
 have hlast : A[A.length - 1]? = some (A[A.length - 1]'(by omega)) := List.getElem?_eq_getElem (by omega)
 have hm2 := mem_ons (hh := 0) (k := 0) (hA _ (List.mem_of_getElem? hlast)) hlast
 have hr := @ons_rise 0 0 A
 rw [e] at hr hm2
 rw [List.pairwise_append] at hr
 rcases List.mem_append.1 hm2 with h | h
 ·have := hr.2.2 _ h (p, i) (by simp)
  simp only at this; omega
 ·simp at h; omega
theorem put_calls {h : Heap} {rb mpb : Nat} {N : List Nd} {S : List Rank} (rk : RK h rb mpb N S) (x : Rank) (coin : Int) (hn : ∀ y ∈ S, y.name ≠ x.name) (hlen : S.length < 65536) :
  CallsH Tryz.prog 239 [ptr rb, .agg ⟨encR x⟩, .int .i64 coin] h (Ret fun _ h' => ∃ N', RK h' rb mpb N' (insR x S) ∧ Chg (blks rb mpb N) h h' ∧ ∀ b ∈ blks rb mpb N', b ∈ blks rb mpb N ∨ h.size ≤ b) := by
 have hK : upto x S ≤ S.length := upto_le x S
 have hNl := rk.len
 obtain ⟨hN, hAl, ⟨hd, A', hA', hAr⟩, hBr⟩ := split_at rk hK
 generalize N.take (upto x S + 1) = A at hN hAl hA'
 generalize N.drop (upto x S + 1) = B at hN hBr
 subst hN
 have hAne : A ≠ [] := by rw [hA']; simp
 refine f239_calls (by simp) ?_
 intro b4 h1 g1
 refine Ei (encR x) (Ai rfl (Ai (cells_blk g1.blk) ?_))
 refine call_ret (less_calls x) ?_
 rintro _ h2 ⟨bl, rfl, hbl, Bl, hc2⟩
 have hc02 : Chg [] h h2 := g1.chg.nil hc2
 have rk2 := rk.ext hc02
 have ask := less_ask Bl (N := A ++ B) (by rw [rk.isS]; exact rk.sorted)
 rw [rk.isS, ← hAl] at ask
 refine call_ret (down_calls rk2.rd rfl hAne ask) ?_
 rintro _ h3 ⟨pb, rfl, hpb, ⟨pl, Bp, hpath⟩, hc3⟩
 have rk3 := rk2.ext hc3
 have B43 : Blk h3 b4 (encR x) := (g1.blk.chg hc2 (by simp)).chg hc3 (by simp)
 refine Ei (encR x) (Ai rfl (Ai (cells_blk B43) ?_))
 obtain ⟨hd0, mem0, hN0, hht0, hrb⟩ := rk3.rd.r
 refine Ei _ (Ai (cell_blk hrb rfl) ?_)
 obtain ⟨es, cl, hmap, hperm⟩ := rk3.map
 refine Ei es (Ei cl (Ai hmap ?_))
 refine Ai rfl (fun z hz => ?_)
 intro u hu
 refine Ai rfl (fun c hc => ?_)
 have hc := and_one hc
 refine callq_ret (tz_calls rk3.tab u) ?_
 rintro _ h4 ⟨⟨t, rfl, t0, t1⟩, rfl⟩
 refine Ai (Ext.refl _) ?_
 refine Ai rfl (fun s hs => ?_)
 have hs := add_in hs (by omega) (by omega)
 refine Ai rfl ?_
 refine Ai rfl (fun m hm => ?_)
 have hm := add_in hm (by omega) (by omega)
 have hm1 : 1 ≤ m ∧ m ≤ 16 := by omega
 refine Ai (by omega) (Ai (Int.le_refl _) (Ai (by omega) (Ai (by omega) ?_)))
 intro xl h5 g5
 intro xb h6 g6
 let x' : Nd := ⟨xb, xl, m.toNat, x⟩
 have hxh : x'.ht = m.toNat := rfl
 have hxl : x'.lb = xl := rfl
 have hc46 : Chg [] h4 h6 := g5.chg.nil g6.chg
 have hc06 : Chg [] h h6 := (hc02.nil hc3).nil hc46
 have rk6 := rk3.ext hc46
 have BX : Blk h6 xb x'.row := g6.blk
 have BL : Blk h6 xl ((List.replicate m.toNat [.pointer none, .int .i64 0]).flatten) := g5.blk.chg g6.chg (by simp)
 have B46 := B43.chg hc46 (by simp)
 have Bp6 := Bp.chg hc46 (by simp)
 have hrb6 := hrb.chg hc46 (by simp)
 have hmap6 := hmap.chg hc46 (by simp)
 -- which blocks are which
 have s1 := g1.id; have s1' := g1.size; have s5 := g5.id; have s5' := g5.size; have s6 := g6.id; have s6' := g6.size
 have z1 := hc02.size; have z2 := hc2.size; have z3 := hc3.size
 have old : ∀ b ∈ blks rb mpb (A ++ B), b < h.size := rk.lt
 obtain ⟨d1, d2, d3, d4, d5, d6, d7⟩ := dis_parts rk.dis
 have lold : ∀ b ∈ lbN (A ++ B), b < h.size := fun b hb => old b (lbN_sub b hb)
 have nd : (x'.lb :: lbN (A ++ B)).Nodup := List.nodup_cons.2 ⟨fun hb => by have := lold _ hb; simp only [x'] at this; omega, d4⟩
 have hlen' : (A ++ B).length ≤ 65537 := rk.rd.len
 have hrb6r : rb ∉ x'.lb :: lbN (A ++ B) := by
  simp only [List.mem_cons, not_or]; exact ⟨by have := old rb (by simp [blks]); simp only [x']; omega, d1⟩
 have fresh6 : ∀ b, h.size ≤ b → b ≠ xl → b ∉ x'.lb :: lbN (A ++ B) := by
  intro b hb hne
  simp only [List.mem_cons, not_or]; exact ⟨hne, fun hb' => by have := lold _ hb'; omega⟩
 have hhead : (hd0 :: mem0).map Nd.r = (A ++ B).map Nd.r := by rw [hN0]
 refine loop_intro (fun n : Nat => [(0, ptr rb), (4, ptr b4), (6, ptr pb), (7, ptr xb), (32, .int .i64 n)]) (fun n h' => n ≤ 16 ∧ PI h6 h' A B x' n) (fun n => 16 - n) 0 ⟨rfl, rfl, rfl, rfl, rfl, trivial⟩
  ⟨Nat.zero_le _, ⟨(Chg.refl h6).mono (by simp), fun a ha => ?_, fun hh hlt => ?_⟩⟩ ?_
 ·rcases List.mem_append.1 ha with ha | ha
  ·exact (rk6.rd.ok a (by simp [ha])).l
  ·rcases List.mem_cons.1 ha with rfl | ha
   ·exact ⟨_, BL, by simp [x']; omega⟩
   ·exact (rk6.rd.ok a (by simp [ha])).l
 ·rw [if_neg (by omega)]; exact rk6.rd.lv hh hlt
 rintro n h7 ⟨hn16, pi⟩
 have BX7 : Blk h7 xb x'.row := BX.chg pi.chg (fresh6 xb (by omega) (by omega))
 have Bp7 := Bp6.chg pi.chg (fresh6 pb (by omega) (by have := Bp.lt; omega))
 have B47 := B46.chg pi.chg (fresh6 b4 (by omega) (by have := B43.lt; omega))
 refine Ai rfl (Ai (fun ht => ?_) (fun ht => ?_))
 ·have hn : n < 16 := by omega
  obtain ⟨p, i, hlast, hp1, hp2⟩ := hpath n hn
  obtain ⟨p0, i0, hlast0, _, hp02⟩ := hpath 0 (by omega)
  obtain ⟨q, w, hlk⟩ := pi.link hn hlast
  have hpA := hlast.memN
  have okp6 := rk6.rd.ok p (List.mem_append_left _ hpA)
  have Pm7 : Blk h7 p.mb p.row := okp6.m.chg pi.chg (by
   simp only [List.mem_cons, not_or]
   have := old p.mb (by simp only [blks, List.mem_cons, List.mem_append]; exact Or.inr (Or.inr (Or.inl (List.mem_map_of_mem (List.mem_append_left _ hpA)))))
   exact ⟨by simp only [x']; omega, d3 p (List.mem_append_left _ hpA)⟩)
  obtain ⟨lk, Bl7, hlkl⟩ := pi.blk p (List.mem_append_left _ hpA)
  obtain ⟨xk, Bxl7, hxkl⟩ := pi.blk x' (by simp)
  have hpt := hlast.get.1
  have hi : i < A.length := (List.getElem?_eq_some_iff.1 hlast.get.2).1
  have hi0 : i0 = A.length - 1 := last_low (fun a ha => (rk6.rd.ok a (List.mem_append_left _ ha)).pos) hlast0
  have en : 0 + 0 + n * 1 = n := by omega
  have en2 : 0 + 16 + n * 1 = 16 + n := by omega
  have em : 0 + n * 2 = 2 * n := by omega
  refine Ai (by omega) (Ai (by omega) (Ei (ptr p.mb) (Ai ?_ ?_)))
  ·exact cell_blk Bp7 (by rw [← hp1]; exact congrArg (fun o => pl[o]?) en)
  refine Ei _ (Ai (cell_blk Pm7 rfl) ?_)
  refine Ai (by omega) (Ai (by omega) ?_)
  refine Ei _ (Ai (cell_blk BX7 rfl) ?_)
  refine Ai rfl (Ai (fun hge => ?_) (fun hge => ?_))
  ·refine Ei (.int .i64 w) (Ai ?_ ?_)
   ·exact Eq.trans (congrArg (fun o => cell h7 p.lb (o + 1)) em) hlk.2
   refine Ai rfl (fun w' hw' => ?_)
   refine Ei lk (Ai Bl7 (Ai (by omega) (Ai rfl (Ai (ones1 rfl) ?_))))
   intro h8 p8
   have p8 : Put h7 h8 p.lb (splice lk (0 + n * 2 + 1) [.int .i64 w']) := p8
   rw [em] at p8
   refine Ai rfl (fun z3 hz3 => ?_)
   have hz3 := add_in hz3 (by omega) (by omega)
   subst hz3
   refine Ai rfl (Ei (n + 1) (Ai ?_ (Ai ?_ ?_)))
   ·exact ⟨rfl, rfl, rfl, rfl, rfl, trivial⟩
   ·exact ⟨by omega, pi.skip hn nd hlen' hlast (by omega) Bl7 hlk.2 (fun a b => add_in hw' (by omega) (by omega)) p8⟩
   ·omega
  ·refine Ai (by decide) (Ai (by decide) (Ei (.int .i64 i0) (Ai (cell_blk Bp7 hp02) ?_)))
   refine Ai (by omega) (Ai (by omega) (Ei (.int .i64 i) (Ai ?_ ?_)))
   ·exact cell_blk Bp7 (by rw [← hp2]; exact congrArg (fun o => pl[o]?) en2)
   refine Ai rfl (fun ov hov => ?_)
   have hov := sub_in hov (by omega) (by omega)
   refine Ei _ (Ai (cell_blk BX7 rfl) ?_)
   refine Ei (.pointer q) (Ai ?_ ?_)
   ·exact Eq.trans (congrArg (fun o => cell h7 p.lb (o + 0)) em) hlk.1
   refine Ei (.int .i64 w) (Ai ?_ ?_)
   ·exact Eq.trans (congrArg (fun o => cell h7 p.lb (o + 1)) em) hlk.2
   refine Ai rfl (fun w1 hw1 => ?_)
   refine Ai (by omega) (Ai (by omega) ?_)
   refine Ei xk (Ai Bxl7 (Ai (by omega) (Ai rfl (Ai (ones2 rfl rfl) ?_))))
   intro h8 p8
   have p8 : Put h7 h8 xl (splice xk (0 + n * 2) [.pointer q, .int .i64 w1]) := p8
   refine Ai rfl (fun w2 hw2 => ?_)
   have hw2 := add_in hw2 (by omega) (by omega)
   have hpx : p.lb ≠ xl := by
    intro e
    have := lold p.lb (List.mem_map_of_mem (List.mem_append_left _ hpA))
    omega
   have Bl8 : Blk h8 p.lb lk := by
    obtain ⟨e, he⟩ := Bl7
    exact ⟨e, by rw [p8.old _ hpx]; exact he⟩
   refine Ei lk (Ai Bl8 (Ai (by omega) (Ai rfl (Ai (ones2 rfl rfl) ?_))))
   intro h9 p9
   have p9 : Put h8 h9 p.lb (splice lk (0 + n * 2) [ptr x'.mb, .int .i64 w2]) := p9
   rw [em] at p8 p9
   refine Ai rfl (fun z3 hz3 => ?_)
   have hz3 := add_in hz3 (by omega) (by omega)
   subst hz3
   refine Ai rfl (Ei (n + 1) (Ai ?_ (Ai ?_ ?_)))
   ·exact ⟨rfl, rfl, rfl, rfl, rfl, trivial⟩
   ·refine ⟨by omega, pi.put hn nd hlen' hlast (by omega) Bl7 Bxl7 hlk.1 hlk.2 (w1 := w1) (w2 := w2) (fun a b => ?_) (by omega) p8 p9⟩
    rw [sub_in hw1 (by omega) (by omega)]; omega
   ·omega
 ·have hn : n = 16 := by omega
  subst hn
  have hrb7 : Blk h7 rb [ptr hd0.mb, .map (some mpb)] := hrb6.chg pi.chg hrb6r
  have hmn : mpb ∉ x'.lb :: lbN (A ++ B) := by
   simp only [List.mem_cons, not_or]; exact ⟨by have := old mpb (by simp [blks]); omega, d2⟩
  have hmap7 : MapB h7 mpb es cl := hmap6.chg pi.chg hmn
  have hkeys : ∀ e ∈ es, ∃ a ∈ (A ++ B).tail, e.key = .string a.r.name := by
   intro e he
   have h1 : (e.key, e.val) ∈ mapOf (A ++ B) := hperm.mem_iff.1 (List.mem_map_of_mem (f := fun e : MapEntry => (e.key, e.val)) he)
   obtain ⟨a, ha, hae⟩ := List.mem_map.1 h1
   exact ⟨a, ha, (congrArg Prod.fst hae).symm⟩
  have hfits : ∀ e ∈ es, fits .str e.key = true := fun e he => by
   obtain ⟨a, _, h2⟩ := hkeys e he; rw [h2]; rfl
  have hmf : mfind (.string x.name) es 0 = none := by
   cases hm : mfind (.string x.name) es 0 with
   |none => rfl
   |some jv =>
    obtain ⟨j, v⟩ := jv
    obtain ⟨_, e, he, hek, _⟩ := mfind_spec (k := .str) rfl es 0 j v hfits hm
    obtain ⟨a, ha, hae⟩ := hkeys e (List.mem_of_getElem? he)
    rw [hae] at hek
    have : a.r.name = x.name := by simpa using hek
    exact absurd this (hn a.r (by rw [← rk.isS]; exact List.mem_map_of_mem ha))
  refine Ei _ (Ai (cell_blk hrb7 rfl) ?_)
  refine Ei _ (Ai (cell_blk B47 rfl) ?_)
  refine Ai rfl (Ei es (Ei cl (Ai hmap7 (Ai hfits ?_))))
  rw [hmf]
  intro h8 p8
  have hc68 : Chg (mpb :: x'.lb :: lbN (A ++ B)) h6 h8 := pi.chg.trans p8.chg (fun k hk => by simp [hk]) (fun k hk _ => by simp at hk; simp [hk])
  have hrecs : recs (A ++ x' :: B) = insR x S := by
   rw [hA']
   simp only [recs, List.cons_append, List.tail_cons, List.map_append, List.map_cons, hAr, hBr]
   rfl
  have hrd : RD h8 rb mpb (A ++ x' :: B) := by
   refine ⟨?_, fun a ha => ?_, fun hh hlt => ?_, ?_⟩
   ·have he : hd0 = hd := by rw [hA'] at hN0; simp at hN0; exact hN0.1.symm
    refine ⟨hd0, A' ++ x' :: B, by rw [hA', he]; rfl, hht0, hrb7.chg p8.chg (by simp; exact d6)⟩
   ·have hmb : a.mb ∉ mpb :: x'.lb :: lbN (A ++ B) ∧ Blk h6 a.mb a.row ∧ a.lb ≠ mpb := by
     by_cases hax : a = x'
     ·subst hax
      simp only [List.mem_cons, not_or]
      have hm0 := old mpb (by simp [blks])
      refine ⟨⟨by show xb ≠ mpb; omega, by show xb ≠ xl; omega, fun hb => by have := lold _ hb; have : xb < h.size := this; omega⟩, BX, by show xl ≠ mpb; omega⟩
     ·have haN : a ∈ A ++ B := by
       rcases List.mem_append.1 ha with ha | ha
       ·simp [ha]
       ·rcases List.mem_cons.1 ha with h | h
        ·exact absurd h hax
        ·simp [h]
      have hm0 : a.mb < h.size := old a.mb (by simp only [blks, List.mem_cons, List.mem_append]; exact Or.inr (Or.inr (Or.inl (List.mem_map_of_mem haN))))
      simp only [List.mem_cons, not_or]
      exact ⟨⟨d5 a haN, by omega, d3 a haN⟩, (rk6.rd.ok a haN).m, fun e => d2 (by rw [← e]; exact List.mem_map_of_mem haN)⟩
    obtain ⟨lk, h1, h2⟩ := pi.blk a ha
    have hht : 1 ≤ a.ht ∧ a.ht ≤ 16 := by
     rcases List.mem_append.1 ha with ha | ha
     ·exact ⟨(rk6.rd.ok a (by simp [ha])).pos, (rk6.rd.ok a (by simp [ha])).top⟩
     ·rcases List.mem_cons.1 ha with h | h
      ·subst h; omega
      ·exact ⟨(rk6.rd.ok a (by simp [h])).pos, (rk6.rd.ok a (by simp [h])).top⟩
    exact ⟨hmb.2.1.chg hc68 hmb.1, ⟨lk, h1.chg p8.chg (by simp; exact hmb.2.2), h2⟩, hht.1, hht.2⟩
   ·have hL := pi.lv hh hlt
    rw [if_pos hlt] at hL
    refine lvl_keep (fun y hy o _ => ?_) hL
    have hyN := mem_of_ons (a := y.1) (i := y.2) hy
    have hne : y.1.lb ≠ mpb := by
     rcases List.mem_append.1 hyN with ha | ha
     ·exact fun e => d2 (by rw [← e]; exact List.mem_map_of_mem (List.mem_append_left _ ha))
     ·rcases List.mem_cons.1 ha with h | h
      ·rw [h]; have := old mpb (by simp [blks]); omega
      ·exact fun e => d2 (by rw [← e]; exact List.mem_map_of_mem (List.mem_append_right _ h))
    unfold cell
    rw [p8.old _ hne]
   ·simp at hNl ⊢; omega
  have h1lt : 3 < h.size := by
   obtain ⟨v, _, _, hv⟩ := rk.tab 0 (by omega)
   exact cell_lt hv
  have hno1 : 3 ∉ mpb :: x'.lb :: lbN (A ++ B) := by
   have := rk.no1
   simp only [blks, List.mem_cons, List.mem_append, not_or] at this
   simp only [List.mem_cons, not_or]
   exact ⟨this.2.1, by omega, this.2.2.2⟩
  refine Ei (A ++ x' :: B) (Ai ?_ (Ai ?_ ?_))
  ·refine rk.put hAne hperm hrd p8.blk hrecs hn ⟨fun hb => ?_, fun hb => ?_, ?_⟩ ((rk6.tab).chg hc68 hno1) ⟨?_, ?_⟩
   ·have : xb < h.size := old _ hb
    omega
   ·have : xl < h.size := old _ hb
    omega
   ·show xb ≠ xl; omega
   ·show xb ≠ 3; omega
   ·show xl ≠ 3; omega
  ·refine hc06.trans hc68 (by simp) (fun k hk hlt => ?_)
   simp only [List.mem_cons] at hk
   rcases hk with rfl | rfl | hk
   ·simp [blks]
   ·omega
   ·exact lbN_sub k hk
  ·intro b hb
   rw [blks_mid.mem_iff] at hb
   simp only [List.mem_cons] at hb
   have e1 : x'.mb = xb := rfl
   rcases hb with hb | hb | hb
   ·right; omega
   ·right; omega
   ·left; simpa using hb
variable {h2 h h' : Heap} {A B : List Nd} {x p : Nd} {n i : Nat}
end Go.Proofs.YtjnijlnmbjjgpaaGreatDoor.K5
namespace Go.Proofs.YtjnijlnmbjjgpaaGreatDoor.K5
open Go Go.Sx Go.Proofs.YtjnijlnmbjjgpaaGreatDoor C
theorem RK.look {h : Heap} {rb mpb : Nat} {N : List Nd} {S : List Rank} (rk : RK h rb mpb N S) (nm : ByteArray) :
  ∃ es c, MapB h mpb es c ∧ (∀ e ∈ es, fits .str e.key = true) ∧ es.length = S.length ∧
   (((∀ y ∈ S, y.name ≠ nm) ∧ mfind (.string nm) es 0 = none) ∨ ∃ A m B j, N = A ++ m :: B ∧ A ≠ [] ∧ m.r.name = nm ∧ mfind (.string nm) es 0 = some (j, ptr m.mb)) := by
 obtain ⟨es, cl, hmap, hperm⟩ := rk.map
 obtain ⟨hd, mem, hN, _, _⟩ := rk.rd.r
 have hS : S = mem.map Nd.r := by rw [← rk.isS, hN]; rfl
 have hlen := hperm.length_eq
 have hkeys : ∀ e ∈ es, ∃ a ∈ mem, e.key = .string a.r.name ∧ e.val = ptr a.mb := by
  intro e he
  have h1 : (e.key, e.val) ∈ mapOf N := hperm.mem_iff.1 (List.mem_map_of_mem (f := fun e : MapEntry => (e.key, e.val)) he)
  rw [hN] at h1
  obtain ⟨a, ha, hae⟩ := List.mem_map.1 h1
  exact ⟨a, ha, (congrArg Prod.fst hae).symm, (congrArg Prod.snd hae).symm⟩
 have hfits : ∀ e ∈ es, fits .str e.key = true := fun e he => by
  obtain ⟨a, _, h2, _⟩ := hkeys e he; rw [h2]; rfl
 refine ⟨es, cl, hmap, hfits, by rw [hS]; simpa [mapOf, hN] using hlen, ?_⟩
 cases hm : mfind (.string nm) es 0 with
 |none =>
  refine Or.inl ⟨fun y hy e => ?_, rfl⟩
  have hno := mfind_none (k := .str) rfl es 0 hfits hm
  rw [hS] at hy
  obtain ⟨a, ha, rfl⟩ := List.mem_map.1 hy
  have hin : ((.string a.r.name, ptr a.mb) : Value × Value) ∈ es.map fun e => (e.key, e.val) := by
   rw [hperm.mem_iff, hN]; exact List.mem_map_of_mem (f := fun a : Nd => ((.string a.r.name, ptr a.mb) : Value × Value)) ha
  obtain ⟨x, hx, hxe⟩ := List.mem_map.1 hin
  exact hno x hx (by rw [← e]; exact congrArg Prod.fst hxe)
 |some jv =>
  obtain ⟨j, v⟩ := jv
  obtain ⟨_, e, hej, hek, hev⟩ := mfind_spec (k := .str) rfl es 0 j v hfits hm
  obtain ⟨a, ha, hak, hav⟩ := hkeys e (List.mem_of_getElem? hej)
  obtain ⟨A, B, rfl⟩ := List.append_of_mem ha
  rw [hek] at hak
  refine Or.inr ⟨hd :: A, a, B, j, hN, by simp, (by simpa using hak.symm), ?_⟩
  rw [← hev, hav]
def RS (h : Heap) (v : Value) (S : List Rank) (fp : List Nat) : Prop := ∃ rb mpb N, v = ptr rb ∧ RK h rb mpb N S ∧ fp = blks rb mpb N
theorem RS.ext {h h' : Heap} {v : Value} {S : List Rank} {fp : List Nat} (rs : RS h v S fp) (hc : Chg [] h h') : RS h' v S fp := by
 obtain ⟨rb, mpb, N, h1, h2, h3⟩ := rs
 exact ⟨rb, mpb, N, h1, h2.ext hc, h3⟩
theorem RK.there {h : Heap} {rb mpb : Nat} {A B : List Nd} {m : Nd} {S : List Rank} (rk : RK h rb mpb (A ++ m :: B) S) (hA : A ≠ []) :
  S = (A.tail.map Nd.r) ++ m.r :: B.map Nd.r := by
 obtain ⟨hd, A', rfl⟩ := List.exists_cons_of_ne_nil hA
 rw [← rk.isS]; simp [recs]
theorem score_calls {h : Heap} {v : Value} {S : List Rank} {fp : List Nat} (rs : RS h v S fp) (nm : ByteArray) :
  CallsH Tryz.prog 237 [v, .string nm] h (Ret fun u h' => h' = h ∧ (((∀ y ∈ S, y.name ≠ nm) ∧ u = .tuple #[.int .i64 0, .bool false]) ∨ ∃ a y b, S = a ++ y :: b ∧ y.name = nm ∧ u = .tuple #[.int .i64 y.score, .bool true])) := by
 obtain ⟨rb, mpb, N, rfl, rk, rfl⟩ := rs
 obtain ⟨hd0, mem0, hN0, hht0, hrb⟩ := rk.rd.r
 obtain ⟨es, cl, hmap, hfits, hel, hl⟩ := rk.look nm
 refine f237_calls (by simp) ?_
 refine call_ret (none_calls hrb) ?_
 rintro _ h1 ⟨rfl, rfl⟩
 refine Ei _ (Ai (cell_blk hrb rfl) ?_)
 refine Ai rfl (Ei es (Ei cl (Ai hmap (Ai hfits ?_))))
 rcases hl with ⟨hno, hm⟩ | ⟨A, m, B, j, rfl, hA, hmn, hm⟩
 ·rw [hm]
  exact Ai rfl (Or.inl ⟨hno, rfl⟩)
 ·rw [hm]
  have Mm := (rk.rd.ok m (by simp)).m
  refine Ei _ (Ai (cell_blk Mm rfl) ?_)
  exact Ai rfl (Or.inr ⟨_, _, _, rk.there hA, hmn, rfl⟩)
theorem rep_get {a b : Value} : ∀ (n i : Nat), i < n → ((List.replicate n [a, b]).flatten)[2 * i]? = some a ∧ ((List.replicate n [a, b]).flatten)[2 * i + 1]? = some b
 |0, i, h => by omega
 |n + 1, 0, _ => by simp [List.replicate_succ]
 |n + 1, i + 1, h => by
  have ih := rep_get (a := a) (b := b) n i (by omega)
  have e : 2 * (i + 1) = 2 * i + 1 + 1 := by omega
  rw [List.replicate_succ, List.flatten_cons, e]
  simpa using ih
theorem begun_calls {h : Heap} (ht : TabH h) :
  CallsH Tryz.prog 238 [] h (Ret fun u h' => Chg [] h h' ∧ ∃ fp, RS h' u [] fp ∧ ∀ b ∈ fp, h.size ≤ b) := by
 have h1lt : 3 < h.size := by
  obtain ⟨v, _, _, hv⟩ := ht 0 (by omega)
  exact cell_lt hv
 refine f238_calls (by simp) ?_
 refine Ai (by decide) (Ai (by decide) (Ai (by decide) (Ai (by decide) ?_)))
 intro lb h1 g1
 intro mb h2 g2
 intro mpb h3 g3
 intro rb h4 g4
 have s1 := g1.id; have s1' := g1.size; have s2 := g2.id; have s2' := g2.size; have s3 := g3.id; have s3' := g3.size; have s4 := g4.id; have s4' := g4.size
 have hc24 : Chg [] h2 h4 := g3.chg.nil g4.chg
 have hc : Chg [] h h4 := (g1.chg.nil g2.chg).nil hc24
 have BL : Blk h4 lb ((List.replicate 16 [.pointer none, .int .i64 0]).flatten) := (g1.blk.chg g2.chg (by simp)).chg hc24 (by simp)
 have BM : Blk h4 mb (Nd.row ⟨mb, lb, 16, ⟨⟨#[]⟩, 0⟩⟩) := (show Blk h2 mb (Nd.row ⟨mb, lb, 16, ⟨⟨#[]⟩, 0⟩⟩) from g2.blk).chg hc24 (by simp)
 have BP : MapB h4 mpb [] 0 := (show MapB h3 mpb [] 0 from g3.blk).chg g4.chg (by simp)
 have BR : Blk h4 rb [ptr mb, .map (some mpb)] := g4.blk
 have hfp : blks rb mpb [⟨mb, lb, 16, ⟨⟨#[]⟩, 0⟩⟩] = [rb, mpb, mb, lb] := rfl
 refine Ai hc (Ei [rb, mpb, mb, lb] (Ai ⟨rb, mpb, [⟨mb, lb, 16, ⟨⟨#[]⟩, 0⟩⟩], rfl, ?_, rfl⟩ ?_))
 ·refine ⟨⟨⟨_, [], rfl, rfl, BR⟩, fun a ha => ?_, fun hh hlt => ?_, by simp⟩, ?_, rfl, ⟨[], 0, BP, by simp [mapOf]⟩, List.Pairwise.nil, List.nodup_nil, ht.chg hc (by simp), ?_⟩
  ·simp at ha; subst ha
   exact ⟨BM, ⟨_, BL, by simp⟩, by simp, by simp⟩
  ·have hg := rep_get (a := .pointer none) (b := .int .i64 0) 16 hh hlt
   simp only [ons, hlt, if_true]
   exact ⟨⟨0, cell_blk BL hg.1, cell_blk BL hg.2⟩, trivial⟩
  ·rw [hfp]; simp; omega
  ·rw [hfp]; simp; omega
 ·intro b hb
  simp at hb; omega
def encI (i : Int) : List Value := [.int .i64 i]
theorem encI_len (i : Int) : (encI i).length = 1 := rfl
def OfP (h : Heap) (l : List Rank) (u : Value) (h' : Heap) : Prop :=
 Chg [] h h' ∧ if ofErr l = 0 then ∃ v fp, u = .tuple #[v, .int .i64 0] ∧ RS h' v (ofR l) fp ∧ ∀ b ∈ fp, h.size ≤ b else u = .tuple #[.pointer none, .int .i64 (ofErr l)]
theorem ofP_bad {h h' : Heap} {l : List Rank} (hc : Chg [] h h') {e : Int} (he : ofErr l = e) (hn : e ≠ 0) : OfP h l (.tuple #[.pointer none, .int .i64 e]) h' := by
 refine ⟨hc, ?_⟩
 rw [he, if_neg hn]
theorem ofm_second {h h1 : Heap} {a : Option Addr} {c : Nat} {l : List Rank} {cv : Value} {cs : List Int} (hv : SL encR h1 (.slice a l.length c) l) (hcv : SL encI h1 cv cs) (hcl : cs.length < 4611686018427387904)
  (hc1 : Chg [] h h1) (ht : TabH h1) (hlen : l.length ≤ 65536) (hsz : l.any (fun x => decide (1048576 < x.name.size)) = false) :
  swp Tryz.prog (.seq (.ops f179r10) (.seq (.seq (.ops f179r11) (.block 2 (.loop f179l22))) (.seq (.ops f179r23) .ret))) (retQ [.t 4, .t 5] (Ret (OfP h l))) (mk [(0, .slice a l.length c), (1, cv)]) [] h1 := by
 have hsm : ∀ x ∈ l, ¬ 1048576 < x.name.size := by
  intro x hx
  have := List.any_eq_false.1 hsz x hx
  simpa using this
 obtain ⟨ca, cc, rfl, hcc⟩ := hcv.form
 refine call_ret (begun_calls ht) ?_
 rintro rv h2 ⟨hc2, fp0, rs0, hfp0⟩
 refine loop_intro (fun k : Nat => [(1, .slice ca cs.length cc), (8, rv), (29, .slice a l.length c), (30, .int .i64 l.length), (31, .int .i64 k)])
  (fun k h' => k ≤ l.length ∧ Chg [] h1 h' ∧ ∃ out fp, RS h' rv out fp ∧ (∀ b ∈ fp, h1.size ≤ b) ∧ out.length ≤ k ∧ ofGo out (l.drop k) = ofGo [] l) (fun k => l.length - k) 0
  ⟨rfl, rfl, rfl, rfl, rfl, trivial⟩ ⟨Nat.zero_le _, hc2, [], fp0, rs0, hfp0, Nat.le_refl _, rfl⟩ ?_
 rintro k h3 ⟨hk, hc3, out, fp, rs, hfp, hol, hgo⟩
 refine Ai rfl (Ai (fun hlt => ?_) (fun hlt => ?_))
 ·have hlt : k < l.length := by omega
  obtain ⟨b, o, rfl⟩ := hv.addr (by omega)
  have hcs := (hv.ext hc3).cells encR_len (i := k) (x := l[k]) (by simp [hlt])
  rw [List.drop_eq_getElem_cons hlt, ofGo] at hgo
  refine Ai (by omega) (Ai (by omega) (Ei (encR l[k]) (Ai rfl (Ai hcs ?_))))
  intro b4 h4 g4
  refine Ei _ (Ai g4.blk (Ai (by decide) (Ai rfl (Ai (ones2 rfl rfl) ?_))))
  intro h5 p5
  have g5 := g4.put p5
  have B5 : Blk h5 b4 (encR l[k]) := p5.blk
  have hc5 := g5.chg
  have rs5 := rs.ext hc5
  have rs5' := rs5
  obtain ⟨rb, mpb, N, rfl, rk, rfl⟩ := rs5
  obtain ⟨hd0, mem0, hN0, hht0, hrb⟩ := rk.rd.r
  obtain ⟨es, cl, hmap, hfits, hel, hl⟩ := rk.look l[k].name
  refine Ei _ (Ai (cell_blk hrb rfl) ?_)
  refine Ei _ (Ai (cell_blk B5 rfl) ?_)
  refine Ai rfl (Ei es (Ei cl (Ai hmap (Ai hfits ?_))))
  have hc35 : Chg [] h1 h5 := hc3.nil hc5
  rcases hl with ⟨hno, hm⟩ | ⟨A, m, B, j, rfl, hA, hmn, hm⟩
  ·rw [hm]
   have hfn : findR l[k].name out 0 = -1 := findR_none hno
   rw [hfn, if_neg (by decide)] at hgo
   have hse : setErr out l[k] = false := by
    have := hsm l[k] (List.getElem_mem hlt)
    simp [setErr]; omega
   rw [hse, if_neg (by simp)] at hgo
   have hset : setR out l[k] = insR l[k] out := by unfold setR; rw [dropR_none hno]
   rw [hset] at hgo
   have done : ∀ N' h6, RK h6 rb mpb N' (insR l[k] out) → Chg (blks rb mpb N) h5 h6 → (∀ b ∈ blks rb mpb N', b ∈ blks rb mpb N ∨ h5.size ≤ b) →
     k + 1 ≤ l.length ∧ Chg [] h1 h6 ∧ ∃ out fp, RS h6 (ptr rb) out fp ∧ (∀ b ∈ fp, h1.size ≤ b) ∧ out.length ≤ k + 1 ∧ ofGo out (l.drop (k + 1)) = ofGo [] l := by
    intro N' h6 rk6 hc6 hb6
    refine ⟨by omega, hc35.fresh hc6 hfp, _, _, ⟨rb, mpb, N', rfl, rk6, rfl⟩, fun b hb => ?_, by rw [insR_len]; omega, hgo⟩
    rcases hb6 b hb with h | h
    ·exact hfp b h
    ·have := hc35.size; omega
   refine Ai rfl (Ai (fun hcn => ?_) (fun hcn => ?_))
   ·have hcn : k < cs.length := by omega
    obtain ⟨cb, co, rfl⟩ := hcv.addr (by omega)
    have hcc5 := (hcv.ext hc35).cells encI_len (i := k) (x := cs[k]) (by simp [hcn])
    refine Ai (by omega) (Ai (by omega) (Ei _ (Ai (hcc5 0 _ rfl) ?_)))
    refine Ei (encR l[k]) (Ai rfl (Ai (cells_blk B5) ?_))
    refine call_ret (put_calls rk l[k] cs[k] hno (by omega)) ?_
    rintro _ h6 ⟨N', rk6, hc6, hb6⟩
    refine Ai rfl (fun z hz => ?_)
    have hz := add_in hz (by omega) (by omega)
    subst hz
    refine Ai rfl (Ei (k + 1) (Ai ?_ (Ai (done N' h6 rk6 hc6 hb6) ?_)))
    ·exact ⟨rfl, rfl, rfl, rfl, rfl, trivial⟩
    ·omega
   ·refine Ei (encR l[k]) (Ai rfl (Ai (cells_blk B5) ?_))
    refine call_ret (put_calls rk l[k] 0 hno (by omega)) ?_
    rintro _ h6 ⟨N', rk6, hc6, hb6⟩
    refine Ai rfl (fun z hz => ?_)
    have hz := add_in hz (by omega) (by omega)
    subst hz
    refine Ai rfl (Ei (k + 1) (Ai ?_ (Ai (done N' h6 rk6 hc6 hb6) ?_)))
    ·exact ⟨rfl, rfl, rfl, rfl, rfl, trivial⟩
    ·omega
  ·rw [hm]
   refine ofP_bad (hc1.nil hc35) ?_ (by decide)
   have hS := rk.there hA
   have hf : 0 ≤ findR l[k].name out 0 := by
    have hnm := rk.names
    rw [hS] at hnm ⊢
    rw [← hmn, findR_mid hnm]; omega
   rw [if_pos hf] at hgo
   unfold ofErr
   rw [if_neg (by omega), hsz, if_neg (by simp), ← hgo]; rfl
 ·have hlt : k = l.length := by omega
  subst hlt
  rw [List.drop_length, ofGo] at hgo
  have e0 : ofErr l = 0 := by
   unfold ofErr
   rw [if_neg (by omega), hsz, if_neg (by simp), ← hgo]; rfl
  refine Ai (hc1.nil hc3) ?_
  rw [if_pos e0]
  have : ofR l = out := by
   unfold ofR
   rw [if_pos e0, ← hgo]; rfl
  rw [this]
  exact ⟨rv, fp, rfl, rs, fun b hb => by have := hfp b hb; have := hc1.size; omega⟩
theorem ofm_calls {h : Heap} {v cv : Value} {l : List Rank} {cs : List Int} (hv : SL encR h v l) (hcv : SL encI h cv cs) (hl : l.length < 4611686018427387904) (hcl : cs.length < 4611686018427387904) (ht : TabH h) :
  CallsH Tryz.prog 179 [v, cv] h (Ret (OfP h l)) := by
 obtain ⟨a, c, rfl, hlc⟩ := hv.form
 refine f179_calls (by simp) ?_
 refine Ai rfl (Ai (fun hn => ?_) (fun hn => ?_))
 ·exact ofP_bad (Chg.refl h) (e := 3) (by unfold ofErr; rw [if_pos (by omega)]) (by decide)
 ·refine loop_intro (fun k : Nat => [(0, .slice a l.length c), (1, cv), (17, .slice a l.length c), (18, .int .i64 l.length), (19, .int .i64 k)]) (fun k h' => k ≤ l.length ∧ Chg [] h h' ∧ (l.take k).any (fun x => decide (1048576 < x.name.size)) = false) (fun k => l.length - k) 0 ⟨rfl, rfl, rfl, rfl, rfl, trivial⟩ ⟨Nat.zero_le _, Chg.refl h, rfl⟩ ?_
  rintro k h1 ⟨hk, hc1, hall⟩
  refine Ai rfl (Ai (fun hlt => ?_) (fun hlt => ?_))
  ·have hlt : k < l.length := by omega
   obtain ⟨b, o, rfl⟩ := hv.addr (by omega)
   have hcs := (hv.ext hc1).cells encR_len (i := k) (x := l[k]) (by simp [hlt])
   refine Ai (by omega) (Ai (by omega) (Ei (encR l[k]) (Ai rfl (Ai hcs ?_))))
   intro b4 h4 g4
   refine Ei _ (Ai g4.blk (Ai (by decide) (Ai rfl (Ai (ones2 rfl rfl) ?_))))
   intro h5 p5
   have g5 := g4.put p5
   have B5 : Blk h5 b4 (encR l[k]) := p5.blk
   have hc5 := hc1.nil g5.chg
   refine Ei _ (Ai (cell_blk B5 rfl) ?_)
   refine Ai rfl (Ai (fun hs => ?_) (fun hs => ?_))
   ·refine ofP_bad hc5 (e := 3) ?_ (by decide)
    unfold ofErr
    rw [if_neg (by omega), any_drop hlt (by simp; omega), if_pos rfl]
   ·refine Ai rfl (fun z hz => ?_)
    have hz := add_in hz (by omega) (by omega)
    subst hz
    refine Ai rfl (Ei (k + 1) (Ai ?_ (Ai ?_ ?_)))
    ·exact ⟨rfl, rfl, rfl, rfl, rfl, trivial⟩
    ·refine ⟨by omega, hc5, ?_⟩
     rw [take_snoc l k hlt, List.any_append, hall]
     simp; omega
    ·omega
  ·have hlt : k = l.length := by omega
   subst hlt
   rw [List.take_length] at hall
   exact cut_at [(0, .slice a l.length c), (1, cv)] ⟨rfl, rfl, trivial⟩ (ofm_second (hv.ext hc1) (hcv.ext hc1) hcl hc1 (ht.chg hc1 (by simp)) (by omega) hall)
end Go.Proofs.YtjnijlnmbjjgpaaGreatDoor.K5
namespace Go.Proofs.YtjnijlnmbjjgpaaGreatDoor
open Go Go.Sx C
namespace K5
theorem upto_all {x : Rank} : ∀ {l : List Rank}, (∀ y ∈ l, ahead y x = true) → upto x l = l.length
 |[], _ => rfl
 |y :: l, h => by
  have ih := upto_all (x := x) (l := l) fun z hz => h z (by simp [hz])
  simp only [upto]
  rw [if_pos (h y (by simp)), ih]; rfl
theorem ofGo_id : ∀ {l out : List Rank}, (out ++ l).Pairwise (fun a b => aheadR a b = true) → ((out ++ l).map Rank.name).Nodup → (out ++ l).length ≤ 65536 → (∀ x ∈ l, x.name.size ≤ 1048576) → ofGo out l = some (out ++ l)
 |[], out, _, _, _, _ => by simp [ofGo]
 |x :: l, out, hs, hn, hl, hz => by
  have e : out ++ x :: l = (out ++ [x]) ++ l := by simp
  have hno : ∀ y ∈ out, y.name ≠ x.name := fun y hy he => by
   rw [List.map_append, List.nodup_append] at hn
   exact hn.2.2 y.name (List.mem_map_of_mem hy) x.name (by simp) he
  have hf : findR x.name out 0 = -1 := findR_none hno
  have hlen : out.length < 65536 := by simp at hl; omega
  have hxz := hz x (by simp)
  have hse : setErr out x = false := by
   unfold setErr
   rw [decide_eq_false (by omega), hf, decide_eq_true (by decide), decide_eq_false (by omega)]
   rfl
  have hup : upto x out = out.length := upto_all fun y hy => (List.pairwise_append.1 hs).2.2 y hy x (by simp)
  have hset : setR out x = out ++ [x] := by
   unfold setR insR
   rw [dropR_none hno, hup, List.take_length, List.drop_length]
  unfold ofGo
  rw [if_neg (by rw [hf]; decide), hse, if_neg (by decide), hset, ofGo_id (l := l) (out := out ++ [x]) (by rw [← e]; exact hs) (by rw [← e]; exact hn) (by rw [← e]; exact hl) (fun y hy => hz y (by simp [hy])), ← e]
theorem of_id {l : List Rank} (hs : l.Pairwise (fun a b => aheadR a b = true)) (hn : (l.map Rank.name).Nodup) (hl : l.length ≤ 65536) (hz : ∀ x ∈ l, x.name.size ≤ 1048576) : ofErr l = 0 ∧ ofR l = l := by
 have hg : ofGo [] l = some l := ofGo_id (l := l) (out := []) hs hn hl hz
 have he : ofErr l = 0 := by
  unfold ofErr
  rw [if_neg (by omega), if_neg, hg]
  ·rfl
  ·intro h
   obtain ⟨x, hx, h⟩ := List.any_eq_true.1 h
   have := hz x hx
   have := of_decide_eq_true h
   omega
 refine ⟨he, ?_⟩
 unfold ofR
 rw [if_pos he, hg]; rfl
end K5
structure RkOK (l : List Rank) : Prop where
 up : l.Pairwise fun a b => aheadR a b = true
 once : (l.map Rank.name).Nodup
 len : l.length ≤ 2000
 sz : ∀ x ∈ l, x.name.size ≤ 2000
 ri : ∀ x ∈ l, In64 x.score
theorem rk_find {l a b : List Rank} {y : Rank} {n : ByteArray} (hn : (l.map Rank.name).Nodup) (e : l = a ++ y :: b) (hy : y.name = n) : scoreF l n = some y.score ∧ (l.findIdx? fun r => decide (r.name = n)) = some a.length := by
 subst e
 have hno : ∀ x ∈ a, x.name ≠ n := fun x hx he => by
  rw [List.map_append, List.nodup_append] at hn
  exact hn.2.2 x.name (List.mem_map_of_mem hx) y.name (by simp) (by rw [he, hy])
 constructor
 ·unfold scoreF
  rw [show (a ++ y :: b).find? (fun r => decide (r.name = n)) = some y by
   rw [List.find?_eq_some_iff_append]
   exact ⟨decide_eq_true hy, a, b, rfl, fun x hx => by rw [decide_eq_false (hno x hx)]; rfl⟩]
  rfl
 ·rw [List.findIdx?_append, List.findIdx?_eq_none_iff.2 fun x hx => decide_eq_false (hno x hx), List.findIdx?_cons, if_pos (decide_eq_true hy)]
  simp
theorem rk_none {l : List Rank} {n : ByteArray} (h : ∀ y ∈ l, y.name ≠ n) : scoreF l n = none ∧ (l.findIdx? fun r => decide (r.name = n)) = none := by
 constructor
 ·unfold scoreF
  rw [List.find?_eq_none.2 fun x hx => by rw [decide_eq_false (h x hx)]; simp]; rfl
 ·exact List.findIdx?_eq_none_iff.2 fun x hx => decide_eq_false (h x hx)
section
variable {h0 h h1 h2 h' : Heap} {ab kb sb mb c b1 b2 bs bt mb2 : Nat} {now op kd : Int} {av lv pv lw rv fv v : Value} {key why n s : ByteArray} {t : Thing} {is : Bool} {A l pre : List ByteArray} {L : List Eff} {m : List KI} {S : Space} {M : List En} {T : List Nat} {res : Res} {th : ByteArray → Bool} {Z : Heap → Prop}
theorem tab9 (ht : K5.TabH h) (hc : Chg [] h h') : K5.TabH h' := ht.chg hc (by simp)
theorem rk9 (hs9 : S9 S) (hi : InS S) : RkOK ((getS S key now).getD zeroT).ranks := by
 have g := good9 (key := key) (now := now) hi
 have t := hs9.get key now
 exact ⟨g.rs, g.once, t.rs, t.rz, t.ri⟩
theorem rof_calls {l : List Rank} (hv : SL encR h rv l) (hr : RkOK l) (ht : K5.TabH h) : CallsH Tryz.prog 179 [rv, .slice none 0 0] h (Ret fun r h' => (∃ v fp, r = .tuple #[v, .int .i64 0] ∧ K5.RS h' v l fp) ∧ Chg [] h h') := by
 have hl := hr.len
 obtain ⟨e1, e2⟩ := K5.of_id hr.up hr.once (by omega) (fun x hx => by have := hr.sz x hx; omega)
 refine (K5.ofm_calls (cs := []) hv SL.nil (by omega) (by simp) ht).mono fun e h' he => ?_
 cases e with
 |panicked ch => exact he.elim
 |outgrown => exact he.elim
 |returned u =>
  obtain ⟨c, he⟩ := he
  rw [if_pos e1] at he
  obtain ⟨v, fp, rfl, rs, _⟩ := he
  rw [e2] at rs
  exact ⟨⟨v, fp, rfl, rs⟩, c⟩
theorem score9_calls (hE : (cE ab kb now av key t is pv lw rv lv L).at h) (hr : RkOK t.ranks) (ht : K5.TabH h) :
  CallsH Tryz.prog 177 [ptr ab, .string n] h (Ret fun r h' => r = .tuple #[.int .i64 ((scoreF t.ranks n).getD 0), .bool (scoreF t.ranks n).isSome] ∧ Chg [] h h') := by
 have sp := (thC hE).2.2
 refine f177_calls (by simp) ?_
 refine Ei _ (Ai (cell_blk hE.1 rfl) ?_)
 refine call_ret (rof_calls sp hr ht) ?_
 rintro _ h2 ⟨⟨v, fp, rfl, rs⟩, c2⟩
 refine call_ret (K5.score_calls rs n) ?_
 rintro u h3 ⟨e3, hu⟩
 have e3 := e3.symm
 subst e3
 rcases hu with ⟨hno, rfl⟩ | ⟨a, y, b, e, hy, rfl⟩
 ·rw [(rk_none hno).1]
  exact ⟨rfl, c2⟩
 ·rw [(rk_find hr.once e hy).1]
  exact ⟨rfl, c2⟩
theorem tc_zadd (hr : RkOK t.ranks) : TC ab kb now av t is pv lw rv (fun h => Blk h b1 [ptr ab] ∧ K5.TabH h) (.func (.func 176) #[] #[ptr b1]) (thereR t.ranks) :=
 ⟨_, _, _, rfl, fun {h s key lv L} hE hZ => by
  refine f176_calls (by simp) ?_
  refine Ei _ (Ai (cell_blk hZ.1 rfl) ?_)
  refine call_ret (score9_calls hE hr hZ.2) ?_
  rintro _ h2 ⟨rfl, c2⟩
  exact ⟨rfl, c2⟩⟩
theorem num9_ret {j : Nat} (p : P9 h0 kb sb mb c m S av A) (hE : (cE ab kb now av key t is pv lw rv lv L).at h) (hc : Chg [] h0 h) (hl : LaidN h0) (hj : A[j]? = some s) (hs : s.size < 281474976710656) {z : Int} (hz : numOf s = some z) :
  CallsH Tryz.prog 163 [ptr ab, .int .i64 j] h (Ret fun r h' => r = .int .i64 z ∧ Chg [] h h') := by
 obtain ⟨b, o, cc, rfl⟩ := p.argF (by have := (List.getElem?_eq_some_iff.1 hj).1; omega)
 refine f163_calls (by simp) ?_
 refine Ei _ (Ai (cell_blk hE.1 rfl) ?_)
 refine p.ix hc j rfl hj ?_
 obtain ⟨⟨l⟩⟩ := s
 refine call_ret (bnum_calls (hl.ext hc) hs) ?_
 rintro _ h1 ⟨rfl, c1⟩
 rw [show Num.num l = some z from hz]
 exact must9_yes fun _ => ⟨rfl, c1⟩
theorem scored_some : ∀ {l : List (ByteArray × ByteArray)}, (∀ p ∈ l, (numOf p.1).isSome = true) → ∃ r, scored l = some r
 |[], _ => ⟨[], rfl⟩
 |(s, n) :: l, h => by
  obtain ⟨z, hz⟩ := Option.isSome_iff_exists.1 (h (s, n) (by simp))
  obtain ⟨r, hr⟩ := scored_some (l := l) fun p hp => h p (by simp [hp])
  refine ⟨(z, n) :: r, ?_⟩
  simp only [scored]
  have hz : numOf s = some z := hz
  rw [hz, hr]
theorem scored_len : ∀ {l : List (ByteArray × ByteArray)} {r : List (Int × ByteArray)}, scored l = some r → r.length = l.length
 |[], r, h => by cases h; rfl
 |(s, n) :: l, r, h => by
  simp only [scored] at h
  split at h
  ·rename_i z r' hz hr
   cases h
   show r'.length + 1 = l.length + 1
   rw [scored_len hr]
  ·cases h
theorem scored_none : ∀ {l : List (ByteArray × ByteArray)} {p : ByteArray × ByteArray}, p ∈ l → numOf p.1 = none → scored l = none
 |(s, n) :: l, p, hp, h => by
  simp only [scored]
  rcases List.mem_cons.1 hp with rfl | hp
  ·have h : numOf s = none := h
   rw [h]
  ·rw [scored_none hp h]
   cases numOf s <;> rfl
theorem scored_get : ∀ {l : List (ByteArray × ByteArray)} {r : List (Int × ByteArray)} {q : Nat} {s n : ByteArray}, scored l = some r → l[q]? = some (s, n) → ∃ z, numOf s = some z ∧ r[q]? = some (z, n)
 |(s, n) :: l, r, q, s', n', h, hq => by
  simp only [scored] at h
  split at h
  ·rename_i z r' hz hr
   cases h
   cases q with
   |zero =>
    simp at hq
    obtain ⟨rfl, rfl⟩ := hq
    exact ⟨z, hz, rfl⟩
   |succ q =>
    obtain ⟨z', h1, h2⟩ := scored_get (q := q) hr (by simpa using hq)
    exact ⟨z', h1, by simpa using h2⟩
  ·cases h
theorem numbers9_calls {k0 : ByteArray} (p : P9 h0 kb sb mb c m S av (k0 :: l)) (hl : LaidN h0) (hev : l.length % 2 = 0) (hlen : l.length < 65536) (hA : ∀ a ∈ k0 :: l, a.size < 281474976710656) (x : As h0 h (cE ab kb now av key t is pv lw rv lv L)) :
  CallsH Tryz.prog 175 [ptr ab, .int .i64 1] h (Sub9 h0 h (cE ab kb now av key t is pv lw rv lv L) (fun _ e' => (∃ r, scored (twos l) = some r) ∧ e' = cE ab kb now av key t is pv lw rv lv L) (fun why => scored (twos l) = none ∧ why = wNum)) := by
 obtain ⟨ba, oa, ac, rfl⟩ := p.argF (by simp)
 have hlc : (k0 :: l).length = l.length + 1 := rfl
 have hhalf := twos_half (Nat.le_refl l.length)
 refine f175_calls (by simp) ?_
 have w := x.st
 refine loop_intro (fun q : Nat => [(0, ptr ab), (4, .int .i64 (2 * q + 1 : Nat))])
  (fun q h' => (2 * q ≤ l.length ∧ ∀ p ∈ (twos l).take q, (numOf p.1).isSome = true) ∧ St (cE ab kb now (.slice (some ⟨ba, oa, none⟩) (k0 :: l).length ac) key t is pv lw rv lv L).fp h h' [cE ab kb now (.slice (some ⟨ba, oa, none⟩) (k0 :: l).length ac) key t is pv lw rv lv L])
  (fun q => l.length - 2 * q) 0 ⟨rfl, rfl, trivial⟩ ⟨⟨Nat.zero_le _, by simp⟩, w⟩ ?_
 rintro q h1 ⟨⟨hq, hsm⟩, w⟩
 refine w.ldc 0 rfl rfl ?_
 refine Ai rfl (Ai (fun hlt => ?_) (fun hge => ?_))
 ·have hlt1 : 2 * q + 1 < l.length := by omega
  have htg := twos_get hlt1
  have hq2 : q < (twos l).length := by omega
  obtain ⟨nm, hnm⟩ : ∃ nm, nm = l[2 * q] := ⟨_, rfl⟩
  obtain ⟨tx, htx⟩ : ∃ tx, tx = l[2 * q + 1] := ⟨_, rfl⟩
  rw [← hnm, ← htx] at htg
  have hn1 : nm ∈ l := by rw [hnm]; exact List.getElem_mem _
  have hn : (k0 :: l)[2 * q + 1]? = some nm := by rw [hnm]; simp
  have htk : (twos l).take (q + 1) = (twos l).take q ++ [(nm, tx)] := by
   rw [List.take_succ_eq_append_getElem hq2]
   have := (List.getElem?_eq_some_iff.1 htg).2
   rw [this]
  refine sub9_go (i := 0) x w rfl (fun x => num9_calls (j := 2 * q + 1) p x hl hn (hA nm (by simp [hn1]))) ?_ ?_
  rotate_left
  ·rintro why h3 ⟨hB, rfl⟩ c3
   exact ⟨_, rfl, ⟨scored_none (List.mem_of_getElem? htg) hB, rfl⟩, c3⟩
  rintro _ h3 _ ⟨z9, hz9, rfl, rfl⟩ w
  refine Ai rfl (fun z hz => ?_)
  have hz := add_in hz (by omega) (by omega)
  subst hz
  refine Ai rfl (Ei (q + 1) (Ai ⟨rfl, rfl, trivial⟩ (Ai ⟨⟨by omega, fun pr hpr => ?_⟩, w⟩ (by omega))))
  rw [htk, List.mem_append] at hpr
  rcases hpr with hpr | hpr
  ·exact hsm pr hpr
  ·rw [List.mem_singleton.1 hpr]
   show (numOf nm).isSome = true
   rw [hz9]; rfl
 ·have hqt : q = (twos l).length := by omega
  rw [hqt, List.take_length] at hsm
  exact ⟨_, ⟨scored_some hsm, rfl⟩, x.out w 0 rfl⟩
set_option maxHeartbeats 2000000 in
theorem zadd9 (p : P9 h0 kb sb mb c m S av A) (hs9 : S9 S) (hi : InS S) (hl : LaidN h0) (ht9 : K5.TabH h0) (hA : ∀ a ∈ A, a.size < 281474976710656) (x : As h0 h (c0 ab kb now av)) : CallsH Tryz.prog 101 [ptr ab] h (Cmd9 h0 h ab kb now av (cZadd S now A)) := by
 refine f101_calls (by simp) ?_
 intro b1 h1 g1
 have w := x.st.new g1
 intro b2 h2 g2
 have w := w.new g2
 refine w.ld1 1 rfl rfl ?_
 refine sub9_go (i := 2) x w rfl (fun x => many9_calls p (by decide) x) ?_ ?_
 rotate_left
 ·rintro why h3 ⟨hB, rfl⟩ c3
  refine bad9 ?_ c3
  cases A with
  |nil => rfl
  |cons k0 l => exact if_neg fun hh => hB ⟨by simp; omega, by simp; omega⟩
 rintro _ h3 _ ⟨hb, k0, hk0, rfl⟩ w
 obtain ⟨k9, l, rfl⟩ := cons_of (by decide) hb.1
 cases hk0
 obtain ⟨ba, oa, ac, rfl⟩ := p.argF (by simp)
 refine w.ld1 1 rfl rfl ?_
 refine w.ldc 2 rfl rfl ?_
 refine Ai rfl (Ai (by decide) (fun z hz => ?_))
 have hz : z = (((k0 :: l).length % 2 : Nat) : Int) := by rw [hz]; exact (Int.ofNat_tmod (k0 :: l).length 2).symm
 subst hz
 have hlc : (k0 :: l).length = l.length + 1 := rfl
 refine Ai rfl (Ai (fun hodd => ?_) (fun hev => must9_no (bad9 (if_neg fun hh => hev (by omega)) w.chg)))
 refine must9_yes fun _ => ?_
 have hc9 : 2 ≤ l.length ∧ l.length < 65536 ∧ l.length % 2 = 0 := ⟨by omega, by omega, by omega⟩
 refine w.ld1 1 rfl rfl ?_
 refine sub9_go (i := 2) x w rfl (fun x => numbers9_calls p hl hc9.2.2 hc9.2.1 hA x) ?_ ?_
 rotate_left
 ·rintro why h4 ⟨hB, rfl⟩ c4
  refine bad9 ((if_pos hc9).trans ?_) c4
  rw [hB]
 rintro _ h4 _ ⟨⟨rr, hrr⟩, rfl⟩ w
 have hnn : cZadd S now (k0 :: l) = kindly S now 5 k0 (fun t => makes S now k0 (t.ranks.length + (newL (thereR t.ranks) [] (rr.map Prod.snd)).length) ((rr.map Prod.snd).all small) (numR (newL (thereR t.ranks) [] (rr.map Prod.snd)).length) (rr.map fun p => rankE k0 p.2 p.1)) :=
  (show cZadd S now (k0 :: l) = if 2 ≤ l.length ∧ l.length < 65536 ∧ l.length % 2 = 0 then _ else _ from rfl).trans ((if_pos hc9).trans (by rw [hrr]))
 refine w.ld1 1 rfl rfl ?_
 refine sub9_go (i := 2) x w rfl (fun x => of9_calls p x) ?_ ?_
 rotate_left
 ·rintro why h4 ⟨hB, rfl⟩ c4
  exact bad9 (hnn.trans (kindly_no hB)) c4
 rintro _ h4 _ ⟨hk, p2, w2, r2, rfl⟩ w
 have hrk := rk9 (key := k0) (now := now) hs9 hi
 have htl := hrk.len
 have hk9 := hA k0 (by simp)
 have he := hnn.trans (kindly_ok hk)
 clear hnn
 generalize (getS S k0 now).getD zeroT = t at *
 obtain ⟨pa, pc, rfl, _⟩ := (w.thc 2 rfl).2.2.form
 obtain ⟨names, hnames⟩ : ∃ names, names = rr.map Prod.snd := ⟨_, rfl⟩
 obtain ⟨D, hDe⟩ : ∃ D, D = rr.map fun p => rankE k0 p.2 p.1 := ⟨_, rfl⟩
 have hrl : rr.length = (twos l).length := scored_len hrr
 have he : cZadd S now (k0 :: l) = makes S now k0 (t.ranks.length + (newL (thereR t.ranks) [] names).length) (names.all small) (numR (newL (thereR t.ranks) [] names).length) D := by rw [he, hnames, hDe]
 have hhalf := twos_half (Nat.le_refl l.length)
 have hnl : names.length = (twos l).length := by rw [hnames, List.length_map]; exact hrl
 have hDl : D.length = (twos l).length := by rw [hDe, List.length_map]; exact hrl
 have hD9 : D ≠ [] := fun e => by rw [e] at hDl; simp at hDl; omega
 have hnle := fun q => newL_le (th := thereR t.ranks) (l := names) q
 refine call_ret fresh9_calls ?_
 rintro _ h5 ⟨⟨bs, mb2, bt, rfl, hf, hfb⟩, c5⟩
 have w := w.add (e := frE bs mb2 bt (.func (.func 176) #[] #[ptr b1]) []) c5 hf (fun b hb => hfb b (by simpa [frE, En.fp] using hb))
 refine loop_intro (fun q : Nat × Nat × Value => [(1, ptr b1), (2, ptr b2), (3, .int .i64 q.2.1), (4, .func (.func 228) #[] #[ptr bs, ptr bt]), (5, .int .i64 (2 * q.1 + 1 : Nat))])
  (fun q h' => (2 * q.1 ≤ l.length ∧ q.2.1 = (newL (thereR t.ranks) [] (names.take q.1)).length ∧ (0 < q.1 → ((t.ranks.length : Int) + q.2.1 ≤ 65536 ∧ k0.size ≤ 1048576)) ∧ (names.take q.1).all small = true) ∧
   St (c0 ab kb now (.slice (some ⟨ba, oa, none⟩) (k0 :: l).length ac)).fp h h' [frE bs mb2 bt (.func (.func 176) #[] #[ptr b1]) (names.take q.1), .b b2 [.int .i64 0, .int .i64 0, .string ⟨#[]⟩, .slice none 0 0], .b b1 [ptr ab],
    cE ab kb now (.slice (some ⟨ba, oa, none⟩) (k0 :: l).length ac) k0 t (getS S k0 now).isSome p2 w2 (.slice pa t.ranks.length pc) q.2.2 (accE S k0 now D q.1)])
  (fun q => l.length - 2 * q.1) (0, 0, nilV) ⟨rfl, rfl, rfl, rfl, rfl, trivial⟩ ⟨⟨Nat.zero_le _, rfl, fun h9 => absurd h9 (by simp), rfl⟩, w⟩ ?_
 rintro ⟨q, n, lv⟩ h6 ⟨⟨hq, hn0, hfits, hsm⟩, w⟩
 replace hq : 2 * q ≤ l.length := hq
 replace hn0 : n = (newL (thereR t.ranks) [] (names.take q)).length := hn0
 replace hfits : 0 < q → ((t.ranks.length : Int) + n ≤ 65536 ∧ k0.size ≤ 1048576) := hfits
 replace hsm : (names.take q).all small = true := hsm
 have hnq : n ≤ q := by
  have h1 := newL_len (th := thereR t.ranks) (l := names.take q) (pre := [])
  rw [List.length_take] at h1
  omega
 refine w.ld1 2 rfl rfl ?_
 refine w.ldc 3 rfl rfl ?_
 refine Ai rfl (Ai (fun hlt => ?_) (fun hge => ?_))
 ·have hlt1 : 2 * q + 1 < l.length := by omega
  have htg := twos_get hlt1
  have hq2 : q < (twos l).length := by omega
  obtain ⟨nm, hnm⟩ : ∃ nm, nm = l[2 * q] := ⟨_, rfl⟩
  obtain ⟨tx, htx⟩ : ∃ tx, tx = l[2 * q + 1] := ⟨_, rfl⟩
  rw [← hnm, ← htx] at htg
  have hn1 : nm ∈ l := by rw [hnm]; exact List.getElem_mem _
  have ht1 : tx ∈ l := by rw [htx]; exact List.getElem_mem _
  have hn : (k0 :: l)[2 * q + 1]? = some nm := by rw [hnm]; simp
  have ht : (k0 :: l)[2 * q + 2]? = some tx := by rw [htx]; simp
  clear hnm htx
  have hz1 := hA nm (by simp [hn1])
  have hz2 := hA tx (by simp [ht1])
  obtain ⟨sc, hsc, hrg⟩ := scored_get hrr htg
  have hD : D[q]? = some { (⟨14, noText, tx, noText, sc⟩ : Eff) with key := k0 } := by rw [hDe, List.getElem?_map, hrg]; rfl
  have hal := acc_len (S := S) (key := k0) (now := now) D q (by omega)
  have hqn : q < names.length := by omega
  have hnq8 : names[q]? = some tx := by rw [hnames, List.getElem?_map, hrg]; rfl
  have hnq9 : names[q] = tx := (List.getElem?_eq_some_iff.1 hnq8).2
  have hnin : tx ∈ names := List.mem_of_getElem? hnq8
  have htk2 : names.take (q + 1) = names.take q ++ [tx] := by rw [List.take_succ_eq_append_getElem hqn, hnq9]
  refine w.ld1 2 rfl rfl ?_
  refine w.ldc 3 rfl rfl ?_
  refine Ai rfl (fun z hz => ?_)
  have hz := add_in hz (by simp only; omega) (by simp only; omega)
  subst hz
  refine p.ix (x.base w) (2 * q + 2) rfl ht ?_
  refine w.fresh 0 3 rfl rfl (by decide) (tc_zadd hrk) (fun h9 c9 => ⟨fr_box w 0 2 rfl rfl (by decide) h9 c9, tab9 ht9 (x.base (w.set (e' := En.nil) 0 rfl c9 (fun b hb => .inl (by simp at hb; simp [frE, En.fp, hb])) trivial (fun b hb => (nomatch (show b ∈ ([] : List Nat) from hb)))))⟩) (by rw [List.length_take]; omega) fun h7 w => ?_
  obtain ⟨bb, hbb⟩ : ∃ bb, bb = (!thereR t.ranks tx && decide (tx ∉ names.take q)) := ⟨_, rfl⟩
  have hcnt := newL_cnt (th := thereR t.ranks) hqn (b := bb) (by rw [hnq9]; exact hbb)
  have hcl := hnle (q + 1)
  rw [← hbb]
  cases bb with
  |true =>
   have hcnt : (newL (thereR t.ranks) [] (names.take (q + 1))).length = n + 1 := by rw [hcnt, hn0]; rfl
   refine Ai rfl (fun z hz => ?_)
   have hz := add_in hz (by simp only; omega) (by simp only; omega)
   subst hz
   refine w.ld1 2 rfl rfl ?_
   refine w.ld1 2 rfl rfl ?_
   refine w.ldc 3 rfl rfl ?_
   refine Ai rfl (fun z hz => ?_)
   have hz := add_in hz (by simp only; omega) (by simp only; omega)
   subst hz
   refine p.ix (x.base w) (2 * q + 2) rfl ht ?_
   refine w.ld1 2 rfl rfl ?_
   refine w.ld1 2 rfl rfl ?_
   refine w.ldc 3 rfl rfl ?_
   refine Ai rfl (fun z hz => ?_)
   have hz : z = (t.ranks.length : Int) + (n + 1 : Nat) := hz.trans (wrap_in (by simp only; omega) (by simp only; omega))
   subst hz
   refine w.callqv (num9_ret p (w.get 3 rfl) (x.base w) hl hn hz1 hsc) fun h7 w => ?_
   refine sub9_go (i := 3) x w rfl (fun x => put9_calls p ⟨14, noText, tx, noText, sc⟩ x (by simp only; omega) (by omega) (by show tx.size < _; omega) (by show noText.size < _; decide)) ?_ ?_
   rotate_left
   ·rintro why h5 ⟨hB, rfl⟩ c5
    refine bad9 (he.trans (mkNo9 ?_)) c5
    rintro ⟨m1, m2, m3⟩
    exact hB ⟨by omega, m2, small_of9 m3 hnin, by show noText.size ≤ _; decide⟩
   rintro _ h5 _ ⟨hfit, lv5, rfl⟩ w
   rw [acc_put hD] at w
   refine Ai rfl (fun z hz => ?_)
   have hz := add_in hz (by simp only; omega) (by simp only; omega)
   subst hz
   refine Ai rfl (Ei (q + 1, n + 1, lv5) (Ai ⟨rfl, rfl, rfl, rfl, rfl, trivial⟩ (Ai ⟨⟨by omega, by rw [hcnt], fun _ => ⟨?_, hfit.2.1⟩, ?_⟩, ?_⟩ (by simp only; omega))))
   ·have := hfit.1
    push_cast at this ⊢
    omega
   ·rw [htk2, List.all_append, hsm]
    simp [small]
    exact hfit.2.2.1
   ·rw [htk2]; exact w
  |false =>
   have hcnt : (newL (thereR t.ranks) [] (names.take (q + 1))).length = n := by rw [hcnt, hn0]; rfl
   refine w.ld1 2 rfl rfl ?_
   refine w.ld1 2 rfl rfl ?_
   refine w.ldc 3 rfl rfl ?_
   refine Ai rfl (fun z hz => ?_)
   have hz := add_in hz (by simp only; omega) (by simp only; omega)
   subst hz
   refine p.ix (x.base w) (2 * q + 2) rfl ht ?_
   refine w.ld1 2 rfl rfl ?_
   refine w.ld1 2 rfl rfl ?_
   refine w.ldc 3 rfl rfl ?_
   refine Ai rfl (fun z hz => ?_)
   have hz : z = (t.ranks.length : Int) + (n : Nat) := hz.trans (wrap_in (by simp only; omega) (by simp only; omega))
   subst hz
   refine w.callqv (num9_ret p (w.get 3 rfl) (x.base w) hl hn hz1 hsc) fun h7 w => ?_
   refine sub9_go (i := 3) x w rfl (fun x => put9_calls p ⟨14, noText, tx, noText, sc⟩ x (by simp only; omega) (by omega) (by show tx.size < _; omega) (by show noText.size < _; decide)) ?_ ?_
   rotate_left
   ·rintro why h5 ⟨hB, rfl⟩ c5
    refine bad9 (he.trans (mkNo9 ?_)) c5
    rintro ⟨m1, m2, m3⟩
    exact hB ⟨by omega, m2, small_of9 m3 hnin, by show noText.size ≤ _; decide⟩
   rintro _ h5 _ ⟨hfit, lv5, rfl⟩ w
   rw [acc_put hD] at w
   refine Ai rfl (fun z hz => ?_)
   have hz := add_in hz (by simp only; omega) (by simp only; omega)
   subst hz
   refine Ai rfl (Ei (q + 1, n, lv5) (Ai ⟨rfl, rfl, rfl, rfl, rfl, trivial⟩ (Ai ⟨⟨by omega, by rw [hcnt], fun _ => ⟨?_, hfit.2.1⟩, ?_⟩, ?_⟩ (by simp only; omega))))
   ·have := hfit.1
    push_cast at this ⊢
    omega
   ·rw [htk2, List.all_append, hsm]
    simp [small]
    exact hfit.2.2.1
   ·rw [htk2]; exact w
 ·have hql : 2 * q = l.length := by omega
  have hqt : q = (twos l).length := by omega
  have hnf : n = (newL (thereR t.ranks) [] names).length := by rw [hn0, List.take_of_length_le (by omega)]
  refine w.callv number9_calls fun h7 w => ?_
  refine w.st1 1 rfl rfl rfl rfl fun h8 w => ?_
  refine fin9 x w 1 3 rfl rfl ?_
  rw [he, mkOk9 ⟨by have := (hfits (by omega)).1; omega, (hfits (by omega)).2, by rw [← List.take_of_length_le (l := names) (i := q) (by omega)]; exact hsm⟩, hqt, ← hDl, acc_all hD9, hnf]
  rfl
theorem zscore9 (p : P9 h0 kb sb mb c m S av A) (hs9 : S9 S) (hi : InS S) (hl : LaidN h0) (ht : K5.TabH h0) (x : As h0 h (c0 ab kb now av)) : CallsH Tryz.prog 103 [ptr ab] h (Cmd9 h0 h ab kb now av (cZscore S now A)) := by
 refine f103_calls (by simp) ?_
 intro b2 h1 g1
 have w := x.st.new g1
 refine sub9_go (i := 1) x w rfl (fun x => begin9_calls p (by decide) x) ?_ ?_
 rotate_left
 ·rintro why h2 hB c2
  exact bad9 (NoB.a2 (f := fun _ n t => match scoreF t.ranks n with
   |some z => .ok (textR ⟨⟨Lib.itoa z⟩⟩, [])
   |none => .ok (nilR, [])) hB) c2
 rintro _ h2 _ ⟨hb, k0, hk0, hk, p2, w2, r2, rfl⟩ w
 obtain ⟨k9, n, rfl⟩ := two_arg hb
 cases hk0
 have he : cZscore S now [k0, n] = _ := (show cZscore S now [k0, n] = kindly S now 5 k0 (fun t => match scoreF t.ranks n with
   |some z => .ok (textR ⟨⟨Lib.itoa z⟩⟩, [])
   |none => .ok (nilR, [])) from rfl).trans (kindly_ok hk)
 have hrk := rk9 (key := k0) (now := now) hs9 hi
 generalize (getS S k0 now).getD zeroT = t at *
 obtain ⟨b, o, cc, rfl⟩ := p.argF (by simp)
 refine w.ldc 1 rfl rfl ?_
 refine p.ix (x.base w) 1 rfl rfl ?_
 refine w.callv (score9_calls (w.get 1 rfl) hrk (tab9 ht (x.base w))) fun h3 w => ?_
 have hin : ∀ z, scoreF t.ranks n = some z → In64 z := fun z hz => by
  unfold scoreF at hz
  obtain ⟨r, hr, rfl⟩ := Option.map_eq_some_iff.1 hz
  exact hrk.ri r (List.mem_of_find?_eq_some hr)
 generalize scoreF t.ranks n = fo at he hin ⊢
 cases fo with
 |none =>
  refine w.st1 0 rfl rfl rfl rfl fun h4 w => ?_
  exact fin9 x w 0 1 rfl rfl he
 |some z =>
  have hz := hin z rfl
  refine w.callv (format_calls (n := z) (hl.ext (x.base w)) hz.1 hz.2) fun h4 w => ?_
  refine w.callv text9_calls fun h4 w => ?_
  refine w.st1 0 rfl rfl rfl rfl fun h5 w => ?_
  exact fin9 x w 0 1 rfl rfl he
end
end Go.Proofs.YtjnijlnmbjjgpaaGreatDoor
namespace Go.Proofs.YtjnijlnmbjjgpaaGreatDoor
open Go Go.Sx C
def KiF (z : Nat) (i : KI) : Prop := z ≤ i.tb ∧ ∀ v ∈ i.vs, ∀ b ∈ vblk v, z ≤ b
theorem KiF.mono {z z' : Nat} {i : KI} (h : KiF z i) (hz : z' ≤ z) : KiF z' i := ⟨Nat.le_trans hz h.1, fun v hv b hb => Nat.le_trans hz (h.2 v hv b hb)⟩
def OneP9 (h0 : Heap) (kb sb mb : Nat) (key : ByteArray) (m : List KI) (f : Fate) (r : Value) (h' : Heap) : Prop :=
 r = .int .i64 f.num ∧ ∃ c' m', (KR h' kb sb mb c' m' ∧ ∀ i ∈ m', i ∈ m ∨ KiF h0.size i) ∧ FateM key m m' f ∧ Chg [mb] h0 h'
theorem one_no9 {h0 h' : Heap} {kb sb mb c : Nat} {key : ByteArray} {m : List KI} {n : Int} (kr : KR h0 kb sb mb c m) (c0 : Chg [] h0 h') : OneP9 h0 kb sb mb key m (.no n) (.int .i64 n) h' :=
 ⟨rfl, c, m, ⟨kr.ext c0, fun i hi => .inl hi⟩, rfl, c0.mono (by simp)⟩
theorem oneG_tail9 {h0 h : Heap} {kb sb mb c b3 b5 b7 : Nat} {m : List KI} {e : Eff} {r : Rule} {t : Thing} {there : Bool} {pv lv rv : Value} (kr : KR h0 kb sb mb c m) (c0 : Chg [] h0 h) (B3 : Blk h b3 (encD e)) (B5 : Blk h b5 (ruleC r))
  (T7 : Blk h b7 (cellsT t pv lv rv)) (o7 : TO h pv lv rv t) (h7 : b7 ∉ bl3 pv lv rv) (f7 : h0.size ≤ b7) (fb : ∀ b ∈ bl3 pv lv rv, h0.size ≤ b) (h3 : b3 ∉ b7 :: bl3 pv lv rv) (gd : TGood t) (hd : DoOK r.f t e) (hkey : e.key.size ≤ 1048576)
  (ht : if there = true then ∃ i ∈ m, i.key = e.key else ∀ i ∈ m, i.key ≠ e.key) :
  swp Tryz.prog (.seq (.seq (.ops f43r13) (.seq (.ops f43r14) (.cond (.tmp 95) (.seq (.ops f43r15) .ret) .skip))) (.seq (.block 1 (.seq (.ops f43r16) (.cond (.tmp 106) (.ops f43r17) (.seq (.ops f43r18) (.cond (.tmp 124) (.seq (.ops f43r19) .ret) (.ops f43r20)))))) (.seq (.ops f43r21) .ret)))
   (retQ [.t 4] (Ret (OneP9 h0 kb sb mb e.key m (endF (doneT t e) there (decide (65536 ≤ m.length)))))) (mk [(0, ptr kb), (3, ptr b3), (5, ptr b5), (7, ptr b7), (8, .bool there)]) [] h := by
 have hle := c0.size
 have clen := doneT_len (t := t) (e := e)
 have cfew := gd.few
 refine Ei _ (Ai (cell_blk B5 rfl) ?_)
 refine Ei (encD e) (Ai rfl (Ai (cells_blk B3) ?_))
 refine call_ret (hd h b7 pv lv rv T7 o7 h7) ?_
 rintro _ h6 ⟨rfl, hok, c6⟩
 have c06 : Chg [] h0 h6 := c0.fresh c6 (fun k hk => by
  rcases List.mem_cons.1 hk with rfl | hk
  ·exact f7
  ·exact fb k hk)
 generalize hres : doneT t e = res at *
 refine Ai rfl (Ai (fun hne => ?_) (fun hne => ?_))
 ·have ef : endF res there (decide (65536 ≤ m.length)) = .no res.2 := by unfold endF; rw [if_pos hne]
  rw [ef]
  exact one_no9 kr c06
 have hz : res.2 = 0 := Decidable.not_not.1 hne
 obtain ⟨ws, W6, x6, hws⟩ := hok hz
 have hfr : ∀ {k : ByteArray} {t' : Thing} {c : Nat}, KiF h0.size ⟨k, b7, ws, t', c⟩ := ⟨f7, fun v hv b hb => by
  rcases hws v hv b hb with h | h
  ·exact fb b h
  ·omega⟩
 have kr6 := kr.ext c06
 have B36 := B3.chg c6 h3
 obtain ⟨pv', lv', rv', hwse, sp, sl, sr⟩ := x6
 have x6 : TH h6 ws res.1 := ⟨pv', lv', rv', hwse, sp, sl, sr⟩
 have hlens : Lens res.1 := by
  unfold countT at clen cfew
  exact ⟨by omega, by omega, by omega⟩
 have K6 : cell h6 b7 0 = some (.int .i64 res.1.kind) := by
  refine cell_blk W6 ?_
  rw [hwse]; rfl
 have drop_ : res.1.kind ≠ 1 ∧ countT res.1 = 0 → ∀ (h8 : Heap), Chg [] h6 h8 →
   swp Tryz.prog (.cond (.tmp 106) (.ops f43r17) (.seq (.ops f43r18) (.cond (.tmp 124) (.seq (.ops f43r19) .ret) (.ops f43r20)))) (blockQ 1 (thenQ (swp Tryz.prog (.seq (.ops f43r21) .ret) (retQ [.t 4] (Ret (OneP9 h0 kb sb mb e.key m (endF res there (decide (65536 ≤ m.length))))))) (retQ [.t 4] (Ret (OneP9 h0 kb sb mb e.key m (endF res there (decide (65536 ≤ m.length)))))))) (mk [(0, ptr kb), (3, ptr b3), (7, ptr b7), (8, .bool there), (106, .bool true)]) [] h8 := by
  intro hem h8 c8
  have ef : endF res there (decide (65536 ≤ m.length)) = .drop := by unfold endF; rw [if_neg hne, if_pos hem]
  rw [ef]
  have kr8 := kr6.ext c8
  have B38 := B36.chg c8 (by simp)
  refine Ei _ (Ai (cell_blk kr8.ks.k rfl) (Ei _ (Ai (cell_blk kr8.ks.s rfl) ?_)))
  refine Ei _ (Ai (cell_blk B38 rfl) ?_)
  refine Ai rfl (Ei (m.map KI.ent) (Ei c (Ai kr8.map (Ai (ents_fit m) ?_))))
  rcases mfind_ents e.key m 0 with ⟨hmf, hno⟩ | ⟨j, i, hmf, hj, hik⟩
  ·rw [hmf]
   intro h9 p9
   refine Ai rfl (Ei c (Ei m (Ai ?_ (Ai (fate_none hno) (((c06.nil c8).mono (by simp)).step p9.chg (by simp))))))
   have ch := ch_putO kr8.map p9
   exact ⟨⟨kr8.ks.ch ch, p9.blk, fun y hy => let ⟨a1, a2, a3⟩ := kr8.here y hy; ⟨ch.blk _ _ a1, a2.ch ch, a3⟩, kr8.nodup, kr8.born, kr8.borns, kr8.keys, kr8.len⟩, fun i hi => .inl hi⟩
  ·rw [hmf, Nat.zero_add]
   intro h9 p9
   refine Ai rfl (Ei c (Ei (m.eraseIdx j) (Ai ⟨kr8.erase p9, fun i hi => .inl (List.mem_of_mem_eraseIdx hi)⟩ (Ai ?_ (((c06.nil c8).mono (by simp)).step p9.chg (by simp))))))
   rw [← hik]
   exact fate_erase kr8.nodup hj
 have rest_ : ¬ (res.1.kind ≠ 1 ∧ countT res.1 = 0) → ∀ (h8 : Heap), Chg [] h6 h8 →
   swp Tryz.prog (.cond (.tmp 106) (.ops f43r17) (.seq (.ops f43r18) (.cond (.tmp 124) (.seq (.ops f43r19) .ret) (.ops f43r20)))) (blockQ 1 (thenQ (swp Tryz.prog (.seq (.ops f43r21) .ret) (retQ [.t 4] (Ret (OneP9 h0 kb sb mb e.key m (endF res there (decide (65536 ≤ m.length))))))) (retQ [.t 4] (Ret (OneP9 h0 kb sb mb e.key m (endF res there (decide (65536 ≤ m.length)))))))) (mk [(0, ptr kb), (3, ptr b3), (7, ptr b7), (8, .bool there), (106, .bool false)]) [] h8 := by
  intro hem h8 c8
  have kr8 := kr6.ext c8
  have B38 := B36.chg c8 (by simp)
  have W8 := W6.chg c8 (by simp)
  have x8 := x6.ext c8
  refine Ei ws (Ai x8.len (Ai (cells_blk W8) ?_))
  refine call_ret (count_calls x8 hlens) ?_
  rintro _ h9 ⟨rfl, c9⟩
  have kr9 := kr8.ext c9
  have B39 := B38.chg c9 (by simp)
  have W9 := W8.chg c9 (by simp)
  have x9 := x8.ext c9
  have c09 := (c06.nil c8).nil c9
  have last : ¬ (65536 < countT res.1 ∨ (there = false ∧ decide (65536 ≤ m.length) = true)) →
    swp Tryz.prog (.cond (.tmp 124) (.seq (.ops f43r19) .ret) (.ops f43r20)) (blockQ 1 (thenQ (swp Tryz.prog (.seq (.ops f43r21) .ret) (retQ [.t 4] (Ret (OneP9 h0 kb sb mb e.key m (endF res there (decide (65536 ≤ m.length))))))) (retQ [.t 4] (Ret (OneP9 h0 kb sb mb e.key m (endF res there (decide (65536 ≤ m.length)))))))) (mk [(0, ptr kb), (3, ptr b3), (7, ptr b7), (8, .bool there), (124, .bool false)]) [] h9 := by
   intro hbig
   have ef : endF res there (decide (65536 ≤ m.length)) = .put res.1 := by unfold endF; rw [if_neg hne, if_neg hem, if_neg hbig]
   rw [ef]
   refine Ei _ (Ai (cell_blk kr9.ks.k rfl) (Ei _ (Ai (cell_blk kr9.ks.s rfl) ?_)))
   refine Ei _ (Ai (cell_blk B39 rfl) ?_)
   refine Ai rfl (Ei (m.map KI.ent) (Ei c (Ai kr9.map (Ai (ents_fit m) ?_))))
   rcases mfind_ents e.key m 0 with ⟨hmf, hno⟩ | ⟨j, i, hmf, hj, hik⟩
   ·rw [hmf]
    intro h10 p10
    have hth : there = false := by
     cases hb : there with
     |false => rfl
     |true =>
      rw [hb, if_pos rfl] at ht
      obtain ⟨i, hi, hk⟩ := ht
      exact absurd hk (hno i hi)
    have hml : m.length < 65536 := by
     rcases Nat.lt_or_ge m.length 65536 with h | h
     ·exact h
     ·exact absurd (.inr ⟨hth, decide_eq_true h⟩) hbig
    exact Ai rfl (Ei _ (Ei _ (Ai ⟨kr9.put p10 hno hkey W9 x9 hlens hml, fun i hi => by
     rcases List.mem_append.1 hi with h | h
     ·exact .inl h
     ·rw [List.mem_singleton.1 h]; exact .inr hfr⟩ (Ai (fate_new hno) ((c09.mono (by simp)).step p10.chg (by simp))))))
   ·rw [hmf, Nat.zero_add]
    intro h10 p10
    refine Ai rfl (Ei _ (Ei _ (Ai ⟨kr9.turn hj p10 W9 x9 hlens, fun y hy => by
     rcases List.mem_or_eq_of_mem_set hy with h | h
     ·exact .inl h
     ·rw [h]; exact .inr hfr⟩ (Ai ?_ ((c09.mono (by simp)).step p10.chg (by simp))))))
    rw [← hik]
    exact fate_set kr9.nodup hj
  refine Ai rfl (Ai (fun hb => ?_) (fun hb => ?_))
  ·have hb : 65536 < countT res.1 := by omega
   have ef : endF res there (decide (65536 ≤ m.length)) = .no 3 := by unfold endF; rw [if_neg hne, if_neg hem, if_pos (.inl hb)]
   rw [ef]
   exact one_no9 kr c09
  have hb : ¬ 65536 < countT res.1 := by omega
  cases there with
  |true =>
   refine cut_in [(0, ptr kb), (3, ptr b3), (7, ptr b7), (8, .bool true), (124, .bool false)] (mono_blockQ (mono_thenQ (fun σ σ' ds h hs hh => swp_sub _ _ σ σ' ds h mono_retQ hs hh) mono_retQ)) ⟨rfl, rfl, rfl, rfl, rfl, trivial⟩ (last ?_)
   rintro (h | ⟨h, _⟩)
   ·exact hb h
   ·cases h
  |false =>
   refine Ei _ (Ai (cell_blk kr9.ks.k rfl) (Ei _ (Ai (cell_blk kr9.ks.s rfl) ?_)))
   refine Ei (m.map KI.ent) (Ei c (Ai kr9.map ?_))
   rw [List.length_map]
   refine Ai rfl (Ai (fun hful => ?_) (fun hful => ?_))
   ·have ef : endF res false (decide (65536 ≤ m.length)) = .no 3 := by unfold endF; rw [if_neg hne, if_neg hem, if_pos (.inr ⟨rfl, decide_eq_true (by omega)⟩)]
    rw [ef]
    exact one_no9 kr c09
   ·refine cut_in [(0, ptr kb), (3, ptr b3), (7, ptr b7), (8, .bool false), (124, .bool false)] (mono_blockQ (mono_thenQ (fun σ σ' ds h hs hh => swp_sub _ _ σ σ' ds h mono_retQ hs hh) mono_retQ)) ⟨rfl, rfl, rfl, rfl, rfl, trivial⟩ (last ?_)
    rintro (h | ⟨_, h⟩)
    ·exact hb h
    ·have := of_decide_eq_true h; omega
 refine Ei _ (Ai K6 ?_)
 refine Ai rfl (Ai (fun hk1 => ?_) (fun hk1 => ?_))
 ·refine Ei ws (Ai x6.len (Ai (cells_blk W6) ?_))
  refine call_ret (count_calls x6 hlens) ?_
  rintro _ h8 ⟨rfl, c8⟩
  refine Ai rfl (Ai (fun hc0 => ?_) (fun hc0 => ?_))
  ·exact cut_in [(0, ptr kb), (3, ptr b3), (7, ptr b7), (8, .bool there), (106, .bool true)] (mono_blockQ (mono_thenQ (fun σ σ' ds h hs hh => swp_sub _ _ σ σ' ds h mono_retQ hs hh) mono_retQ)) ⟨rfl, rfl, rfl, rfl, rfl, trivial⟩ (drop_ ⟨hk1, by omega⟩ h8 c8)
  ·exact cut_in [(0, ptr kb), (3, ptr b3), (7, ptr b7), (8, .bool there), (106, .bool false)] (mono_blockQ (mono_thenQ (fun σ σ' ds h hs hh => swp_sub _ _ σ σ' ds h mono_retQ hs hh) mono_retQ)) ⟨rfl, rfl, rfl, rfl, rfl, trivial⟩ (rest_ (fun h => hc0 (by omega)) h8 c8)
 ·exact cut_in [(0, ptr kb), (3, ptr b3), (7, ptr b7), (8, .bool there), (106, .bool false)] (mono_blockQ (mono_thenQ (fun σ σ' ds h hs hh => swp_sub _ _ σ σ' ds h mono_retQ hs hh) mono_retQ)) ⟨rfl, rfl, rfl, rfl, rfl, trivial⟩ (rest_ (fun h => h.1 (Decidable.not_not.1 hk1)) h6 (Chg.refl h6))
theorem oneG_look9 {h0 h : Heap} {kb sb mb c b3 b5 : Nat} {m : List KI} {e : Eff} {r : Rule} {old : Option Thing} (kr : KR h0 kb sb mb c m) (c0 : Chg [] h0 h) (B3 : Blk h b3 (encD e)) (B5 : Blk h b5 (ruleC r))
  (hr : ruleR e.op = some r) (hin : ∀ i ∈ m, TIn i.thing) (hold : OldM m e.key old) (hkey : e.key.size ≤ 1048576) :
  swp Tryz.prog (.seq (.ops f43r6) (.seq (.block 0 (.seq (.ops f43r7) (.cond (.tmp 65) (.seq (.ops f43r8) .ret) (.seq (.ops f43r9) (.cond (.tmp 73) (.ops f43r10) (.seq (.ops f43r11) (.cond (.tmp 79) (.seq (.ops f43r12) .ret) .skip))))))) (.seq (.seq (.ops f43r13) (.seq (.ops f43r14) (.cond (.tmp 95) (.seq (.ops f43r15) .ret) .skip))) (.seq (.block 1 (.seq (.ops f43r16) (.cond (.tmp 106) (.ops f43r17) (.seq (.ops f43r18) (.cond (.tmp 124) (.seq (.ops f43r19) .ret) (.ops f43r20)))))) (.seq (.ops f43r21) .ret)))))
   (retQ [.t 4] (Ret (OneP9 h0 kb sb mb e.key m (choose_ r old e (decide (65536 ≤ m.length)))))) (mk [(0, ptr kb), (3, ptr b3), (5, ptr b5)]) [] h := by
 have kr1 := kr.ext c0
 have l3 := B3.lt
 have l5 := B5.lt
 have hs0 := c0.size
 refine Ei _ (Ai (cell_blk B3 rfl) ?_)
 refine call_ret (LookK_calls e.key kr1) ?_
 rintro _ h2 ⟨hlook, c2⟩
 have s2 := c2.size
 rcases hlook with ⟨i, hi, hik, pv, lv, rv, rfl, o2, fr⟩ | ⟨hno, rfl⟩
 ·-- there
  cases hold' : old with
  |none => rw [hold'] at hold; exact absurd hik (hold i hi)
  |some t =>
  rw [hold'] at hold
  obtain ⟨i', hi', hik', hit'⟩ := hold
  have : i' = i := key_uniq kr.nodup hi' hi (hik'.trans hik.symm)
  subst this
  rw [hit'] at o2 ⊢
  have tin := hin i' hi'
  rw [hit'] at tin
  intro b7 h3 g3
  refine Ei _ (Ai g3.blk (Ai (by decide) (Ai rfl (Ai (thing_one o2.th) ?_))))
  intro h4 p4
  have g4 := g3.put p4
  have B7 : Blk h4 b7 (cellsT t pv lv rv) := p4.blk
  have c4 := g4.chg
  have i7 := g4.id
  have B34 := (B3.chg c2 (by simp)).chg c4 (by simp)
  have B54 := (B5.chg c2 (by simp)).chg c4 (by simp)
  have o4 := o2.chg c4 (by simp)
  have c04 := (c0.nil c2).nil c4
  have lo2 := o2
  have n7 : b7 ∉ bl3 pv lv rv := fun hb => by
   simp only [bl3, List.mem_append] at hb
   rcases hb with hb | hb | hb
   ·have := o2.p.lt b7 hb; omega
   ·have := o2.l.lt b7 hb; omega
   ·have := o2.r.lt b7 hb; omega
  have go : (r.kind ≠ 0 → t.kind = r.kind) →
    swp Tryz.prog (.seq (.seq (.ops f43r13) (.seq (.ops f43r14) (.cond (.tmp 95) (.seq (.ops f43r15) .ret) .skip))) (.seq (.block 1 (.seq (.ops f43r16) (.cond (.tmp 106) (.ops f43r17) (.seq (.ops f43r18) (.cond (.tmp 124) (.seq (.ops f43r19) .ret) (.ops f43r20)))))) (.seq (.ops f43r21) .ret)))
     (retQ [.t 4] (Ret (OneP9 h0 kb sb mb e.key m (choose_ r (some t) e (decide (65536 ≤ m.length)))))) (mk [(0, ptr kb), (3, ptr b3), (5, ptr b5), (7, ptr b7), (8, .bool true)]) [] h4 := by
   intro hk
   have ef : choose_ r (some t) e (decide (65536 ≤ m.length)) = endF (doneT t e) true (decide (65536 ≤ m.length)) := by
    show (if r.kind ≠ 0 ∧ t.kind ≠ r.kind then Fate.no 170 else endF (doneT t e) true (decide (65536 ≤ m.length))) = _
    rw [if_neg fun h => h.2 (hk h.1)]
   rw [ef]
   have ok : OfKind t e := fun r' h1 h2 => by
    rw [hr] at h1
    injection h1 with h1
    subst h1
    exact hk h2
   refine oneG_tail9 kr c04 B34 B54 B7 o4 n7 (by omega) (fun b hb => by have := fr b hb; omega) ?_ tin.good (rule_do hr tin.good ok fun h9 => tin.some ?_) hkey (by rw [if_pos rfl]; exact ⟨i', hi', hik'⟩)
   ·rw [List.mem_cons, not_or]
    exact ⟨by omega, fun hb => by have := fr b3 hb; omega⟩
   ·have hr' := hr
    rcases h9 with h9 | h9
    ·rw [h9] at hr'
     exact ok r hr (by injection hr' with e'; rw [← e']; decide) |>.trans (by injection hr' with e'; rw [← e'])
    ·rw [h9] at hr'
     exact ok r hr (by injection hr' with e'; rw [← e']; decide) |>.trans (by injection hr' with e'; rw [← e'])
  refine Ei _ (Ai (cell_blk B54 rfl) ?_)
  refine Ai rfl (Ai (fun hk0 => ?_) (fun hk0 => ?_))
  ·refine Ei _ (Ai (cell_blk B7 rfl) (Ei _ (Ai (cell_blk B54 rfl) ?_)))
   refine Ai rfl (Ai (fun hne => ?_) (fun hne => ?_))
   ·have ef : choose_ r (some t) e (decide (65536 ≤ m.length)) = .no 170 := if_pos ⟨hk0, hne⟩
    rw [ef]
    exact one_no9 kr c04
   ·exact cut_at [(0, ptr kb), (3, ptr b3), (5, ptr b5), (7, ptr b7), (8, .bool true)] ⟨rfl, rfl, rfl, rfl, rfl, trivial⟩ (go fun _ => Decidable.not_not.1 hne)
  ·exact cut_at [(0, ptr kb), (3, ptr b3), (5, ptr b5), (7, ptr b7), (8, .bool true)] ⟨rfl, rfl, rfl, rfl, rfl, trivial⟩ (go fun h => absurd h hk0)
 ·-- not there
  cases hold' : old with
  |some t =>
   rw [hold'] at hold
   obtain ⟨i, hi, hik, _⟩ := hold
   exact absurd hik (hno i hi)
  |none =>
  intro b7 h3 g3
  refine Ei _ (Ai g3.blk (Ai (by decide) (Ai rfl (Ai (thing_one (t := zeroT) (h := h3) zero_TH) ?_))))
  intro h4 p4
  have g4 := g3.put p4
  have B7 : Blk h4 b7 zeroV := p4.blk
  have c4 := g4.chg
  have i7 := g4.id
  have B34 := (B3.chg c2 (by simp)).chg c4 (by simp)
  have B54 := (B5.chg c2 (by simp)).chg c4 (by simp)
  have c04 := (c0.nil c2).nil c4
  refine Ei _ (Ai (cell_blk B54 rfl) ?_)
  cases hmk : r.makes with
  |false =>
   have ef : choose_ r none e (decide (65536 ≤ m.length)) = .no 5 := if_pos hmk
   rw [ef]
   exact one_no9 kr c04
  |true =>
   have ef : choose_ r none e (decide (65536 ≤ m.length)) = endF (doneT { zeroT with kind := r.kind } e) false (decide (65536 ≤ m.length)) := if_neg (by rw [hmk]; simp)
   rw [ef]
   refine Ei _ (Ai (cell_blk B54 rfl) ?_)
   refine Ei _ (Ai B7 (Ai (by decide) (Ai rfl (Ai (ones1 rfl) ?_))))
   intro h5 p5
   have c5 := p5.chg
   have B75 : Blk h5 b7 (cellsT { zeroT with kind := r.kind } (.slice none 0 0) (.slice none 0 0) (.slice none 0 0)) := p5.blk
   have c05 : Chg [] h0 h5 := c04.fresh c5 (by simp; omega)
   refine cut_at [(0, ptr kb), (3, ptr b3), (5, ptr b5), (7, ptr b7), (8, .bool false)] ⟨rfl, rfl, rfl, rfl, rfl, trivial⟩ (oneG_tail9 kr c05 (B34.chg c5 (by simp; omega)) (B54.chg c5 (by simp; omega)) B75 (TO.nil rfl rfl rfl) (by simp [bl3, vblk, ablk]) (by omega) (by simp [bl3, vblk, ablk]) (by simp [bl3, vblk, ablk]; omega)
    (TGood.zero _) (rule_do hr (TGood.zero _) (fun r' h1 _ => by rw [hr] at h1; injection h1 with h1; rw [h1]) fun h9 => ?_) hkey (by rw [if_neg (by simp)]; exact hno))
   exfalso
   rcases h9 with h9 | h9
   ·rw [h9] at hr
    injection hr with e'
    rw [← e'] at hmk
    cases hmk
   ·rw [h9] at hr
    injection hr with e'
    rw [← e'] at hmk
    cases hmk
theorem oneG_rest9 {h0 h : Heap} {kb sb mb c b3 b5 : Nat} {m : List KI} {e : Eff} {r : Rule} {old : Option Thing} (kr : KR h0 kb sb mb c m) (c0 : Chg [] h0 h) (B3 : Blk h b3 (encD e)) (B5 : Blk h b5 (ruleC r))
  (hr : ruleR e.op = some r) (hin : ∀ i ∈ m, TIn i.thing) (hold : OldM m e.key old) :
  swp Tryz.prog (.seq (.seq (.ops f43r2) (.cond (.tmp 48) (.seq (.ops f43r3) .ret) .skip)) (.seq (.seq (.ops f43r4) (.cond (.tmp 57) (.seq (.ops f43r5) .ret) .skip)) (.seq (.ops f43r6) (.seq (.block 0 (.seq (.ops f43r7) (.cond (.tmp 65) (.seq (.ops f43r8) .ret) (.seq (.ops f43r9) (.cond (.tmp 73) (.ops f43r10) (.seq (.ops f43r11) (.cond (.tmp 79) (.seq (.ops f43r12) .ret) .skip))))))) (.seq (.seq (.ops f43r13) (.seq (.ops f43r14) (.cond (.tmp 95) (.seq (.ops f43r15) .ret) .skip))) (.seq (.block 1 (.seq (.ops f43r16) (.cond (.tmp 106) (.ops f43r17) (.seq (.ops f43r18) (.cond (.tmp 124) (.seq (.ops f43r19) .ret) (.ops f43r20)))))) (.seq (.ops f43r21) .ret)))))))
   (retQ [.t 4] (Ret (OneP9 h0 kb sb mb e.key m (oneF old e (decide (65536 ≤ m.length)))))) (mk [(0, ptr kb), (3, ptr b3), (5, ptr b5), (6, .bool true)]) [] h := by
 have ef : ∀ full, oneF old e full = if (r.name = false ∧ e.name ≠ noText) ∨ (r.text = false ∧ e.text ≠ noText) ∨ (r.number = false ∧ e.num ≠ 0) then .no 2 else
   if 1048576 < e.key.size ∨ 1048576 < e.name.size ∨ 1048576 < e.text.size then .no 3 else choose_ r old e full := by
  intro full
  unfold oneF
  rw [hr]
  cases old <;> rfl
 obtain ⟨F, hF⟩ : ∃ F, F = oneF old e (decide (65536 ≤ m.length)) := ⟨_, rfl⟩
 rw [← hF]
 have bad : ((r.name = false ∧ e.name ≠ noText) ∨ (r.text = false ∧ e.text ≠ noText) ∨ (r.number = false ∧ e.num ≠ 0)) → Ret (OneP9 h0 kb sb mb e.key m F) (.returned (retV [.int .i64 2])) h := by
  intro hb
  rw [hF, ef, if_pos hb]
  exact one_no9 kr c0
 have go : ¬ ((r.name = false ∧ e.name ≠ noText) ∨ (r.text = false ∧ e.text ≠ noText) ∨ (r.number = false ∧ e.num ≠ 0)) →
   swp Tryz.prog (.seq (.seq (.ops f43r4) (.cond (.tmp 57) (.seq (.ops f43r5) .ret) .skip)) (.seq (.ops f43r6) (.seq (.block 0 (.seq (.ops f43r7) (.cond (.tmp 65) (.seq (.ops f43r8) .ret) (.seq (.ops f43r9) (.cond (.tmp 73) (.ops f43r10) (.seq (.ops f43r11) (.cond (.tmp 79) (.seq (.ops f43r12) .ret) .skip))))))) (.seq (.seq (.ops f43r13) (.seq (.ops f43r14) (.cond (.tmp 95) (.seq (.ops f43r15) .ret) .skip))) (.seq (.block 1 (.seq (.ops f43r16) (.cond (.tmp 106) (.ops f43r17) (.seq (.ops f43r18) (.cond (.tmp 124) (.seq (.ops f43r19) .ret) (.ops f43r20)))))) (.seq (.ops f43r21) .ret))))))
    (retQ [.t 4] (Ret (OneP9 h0 kb sb mb e.key m F))) (mk [(0, ptr kb), (3, ptr b3), (5, ptr b5)]) [] h := by
  intro hgood
  rw [hF, ef, if_neg hgood]
  clear hF bad
  refine Ei _ (Ai (cell_blk B3 rfl) (Ei _ (Ai (cell_blk B3 rfl) (Ei _ (Ai (cell_blk B3 rfl) ?_)))))
  intro b6 h1 g1
  have s6 : SL encS h1 (.slice (some ⟨b6, 0, none⟩) 3 3) [e.key, e.name, e.text] := ⟨_, _, rfl, Nat.le_refl _, cells_blk g1.blk⟩
  refine call_ret (short_calls s6 (by simp)) ?_
  rintro r2 h9 ⟨hr2, e9⟩
  have e9 := e9.symm
  subst e9
  have c01 := c0.nil g1.chg
  by_cases hlong : 1048576 < e.key.size ∨ 1048576 < e.name.size ∨ 1048576 < e.text.size
  ·rw [if_pos hlong]
   have hsh : shortL [e.key, e.name, e.text] = false := by
    cases hb : shortL [e.key, e.name, e.text] with
    |false => rfl
    |true =>
     rw [shortL_iff] at hb
     have h1 := hb e.key (by simp)
     have h2 := hb e.name (by simp)
     have h3 := hb e.text (by simp)
     omega
   rw [hsh] at hr2
   subst hr2
   exact one_no9 kr c01
  ·rw [if_neg hlong]
   have hsh : shortL [e.key, e.name, e.text] = true := by
    rw [shortL_iff]
    intro s hs
    simp at hs
    rcases hs with rfl | rfl | rfl <;> omega
   rw [hsh] at hr2
   subst hr2
   refine swp_seq ?_
   exact cut_at [(0, ptr kb), (3, ptr b3), (5, ptr b5)] ⟨rfl, rfl, rfl, trivial⟩ (oneG_look9 kr c01 (B3.chg g1.chg (by simp)) (B5.chg g1.chg (by simp)) hr hin hold (by omega))
 refine Ei _ (Ai (cell_blk B5 rfl) ?_)
 cases q0 : r.name with
 |true =>
  refine Ei _ (Ai (cell_blk B5 rfl) ?_)
  cases q1 : r.text with
  |true =>
   refine Ei _ (Ai (cell_blk B5 rfl) ?_)
   cases q2 : r.number with
   |true =>
    exact cut_at [(0, ptr kb), (3, ptr b3), (5, ptr b5)] ⟨rfl, rfl, rfl, trivial⟩ (go (by simp [noText, q0, q1, q2]))
   |false =>
    refine Ei _ (Ai (cell_blk B3 rfl) ?_)
    refine Ai rfl (Ai (fun w2 => bad (.inr (.inr ⟨q2, w2⟩))) (fun w2 => ?_))
    have w2 := Decidable.not_not.1 w2
    exact cut_at [(0, ptr kb), (3, ptr b3), (5, ptr b5)] ⟨rfl, rfl, rfl, trivial⟩ (go (by simp [noText, q0, q1, q2, w2]))
  |false =>
   refine Ei _ (Ai (cell_blk B3 rfl) ?_)
   refine Ai (fun w1 => bad (.inr (.inl ⟨q1, w1⟩))) (fun w1 => ?_)
   have w1 := Decidable.not_not.1 w1
   refine Ei _ (Ai (cell_blk B5 rfl) ?_)
   cases q2 : r.number with
   |true =>
    exact cut_at [(0, ptr kb), (3, ptr b3), (5, ptr b5)] ⟨rfl, rfl, rfl, trivial⟩ (go (by simp [noText, q0, q1, w1, q2]))
   |false =>
    refine Ei _ (Ai (cell_blk B3 rfl) ?_)
    refine Ai rfl (Ai (fun w2 => bad (.inr (.inr ⟨q2, w2⟩))) (fun w2 => ?_))
    have w2 := Decidable.not_not.1 w2
    exact cut_at [(0, ptr kb), (3, ptr b3), (5, ptr b5)] ⟨rfl, rfl, rfl, trivial⟩ (go (by simp [noText, q0, q1, w1, q2, w2]))
 |false =>
  refine Ei _ (Ai (cell_blk B3 rfl) ?_)
  refine Ai (fun w0 => bad (.inl ⟨q0, w0⟩)) (fun w0 => ?_)
  have w0 := Decidable.not_not.1 w0
  refine Ei _ (Ai (cell_blk B5 rfl) ?_)
  cases q1 : r.text with
  |true =>
   refine Ei _ (Ai (cell_blk B5 rfl) ?_)
   cases q2 : r.number with
   |true =>
    exact cut_at [(0, ptr kb), (3, ptr b3), (5, ptr b5)] ⟨rfl, rfl, rfl, trivial⟩ (go (by simp [noText, q0, w0, q1, q2]))
   |false =>
    refine Ei _ (Ai (cell_blk B3 rfl) ?_)
    refine Ai rfl (Ai (fun w2 => bad (.inr (.inr ⟨q2, w2⟩))) (fun w2 => ?_))
    have w2 := Decidable.not_not.1 w2
    exact cut_at [(0, ptr kb), (3, ptr b3), (5, ptr b5)] ⟨rfl, rfl, rfl, trivial⟩ (go (by simp [noText, q0, w0, q1, q2, w2]))
  |false =>
   refine Ei _ (Ai (cell_blk B3 rfl) ?_)
   refine Ai (fun w1 => bad (.inr (.inl ⟨q1, w1⟩))) (fun w1 => ?_)
   have w1 := Decidable.not_not.1 w1
   refine Ei _ (Ai (cell_blk B5 rfl) ?_)
   cases q2 : r.number with
   |true =>
    exact cut_at [(0, ptr kb), (3, ptr b3), (5, ptr b5)] ⟨rfl, rfl, rfl, trivial⟩ (go (by simp [noText, q0, w0, q1, w1, q2]))
   |false =>
    refine Ei _ (Ai (cell_blk B3 rfl) ?_)
    refine Ai rfl (Ai (fun w2 => bad (.inr (.inr ⟨q2, w2⟩))) (fun w2 => ?_))
    have w2 := Decidable.not_not.1 w2
    exact cut_at [(0, ptr kb), (3, ptr b3), (5, ptr b5)] ⟨rfl, rfl, rfl, trivial⟩ (go (by simp [noText, q0, w0, q1, w1, q2, w2]))
theorem oneG_bad9 {h0 h : Heap} {kb sb mb c b3 b5 : Nat} {m : List KI} {e : Eff} {old : Option Thing} (kr : KR h0 kb sb mb c m) (c0 : Chg [] h0 h) (hr : ruleR e.op = none) :
  swp Tryz.prog (.seq (.seq (.ops f43r2) (.cond (.tmp 48) (.seq (.ops f43r3) .ret) .skip)) (.seq (.seq (.ops f43r4) (.cond (.tmp 57) (.seq (.ops f43r5) .ret) .skip)) (.seq (.ops f43r6) (.seq (.block 0 (.seq (.ops f43r7) (.cond (.tmp 65) (.seq (.ops f43r8) .ret) (.seq (.ops f43r9) (.cond (.tmp 73) (.ops f43r10) (.seq (.ops f43r11) (.cond (.tmp 79) (.seq (.ops f43r12) .ret) .skip))))))) (.seq (.seq (.ops f43r13) (.seq (.ops f43r14) (.cond (.tmp 95) (.seq (.ops f43r15) .ret) .skip))) (.seq (.block 1 (.seq (.ops f43r16) (.cond (.tmp 106) (.ops f43r17) (.seq (.ops f43r18) (.cond (.tmp 124) (.seq (.ops f43r19) .ret) (.ops f43r20)))))) (.seq (.ops f43r21) .ret)))))))
   (retQ [.t 4] (Ret (OneP9 h0 kb sb mb e.key m (oneF old e (decide (65536 ≤ m.length)))))) (mk [(0, ptr kb), (3, ptr b3), (5, ptr b5), (6, .bool false)]) [] h := by
 have ef : oneF old e (decide (65536 ≤ m.length)) = .no 2 := by unfold oneF; rw [hr]
 rw [ef]
 exact one_no9 kr c0
theorem oneG9_calls {h : Heap} {kb sb mb c : Nat} {m : List KI} {e : Eff} {old : Option Thing} (kr : KR h kb sb mb c m) (hin : ∀ i ∈ m, TIn i.thing) (hold : OldM m e.key old) :
  CallsH Tryz.prog 43 [ptr kb, .agg ⟨encD e⟩] h (Ret (OneP9 h kb sb mb e.key m (oneF old e (decide (65536 ≤ m.length))))) := by
 refine f43_calls (by simp) ?_
 intro b3 h1 g1
 have B3 : Blk h1 b3 (encD e) := g1.blk
 refine Ei _ (Ai (cell_blk B3 rfl) ?_)
 refine Ai ?_ ?_
 ·refine callq_ret rules_calls ?_
  rintro _ h2 ⟨rb, rfl, mr, hrb, hc2⟩
  refine Ai hc2.ext ?_
  refine Ai rfl (Ei (entsI ruleL 0) (Ei 15 (Ai mr (Ai (entsI_fits _ _) ?_))))
  rcases rule_find e.op with ⟨hr, hmf⟩ | ⟨r, j, hr, hmf⟩
  ·rw [hmf]
   intro b5 h3 g3
   refine Ei _ (Ai g3.blk (Ai (by decide) (Ai rfl (Ai (by decide) ?_))))
   intro h4 p4
   have g4 := g3.put p4
   exact cut_at [(0, ptr kb), (3, ptr b3), (5, ptr b5), (6, .bool false)] ⟨rfl, rfl, rfl, rfl, trivial⟩ (oneG_bad9 kr ((g1.chg.nil hc2).nil g4.chg) hr)
  ·rw [hmf]
   intro b5 h3 g3
   refine Ei _ (Ai g3.blk (Ai (by decide) (Ai rfl (Ai (rule_ones r) ?_))))
   intro h4 p4
   have g4 := g3.put p4
   have hc14 := hc2.nil g4.chg
   exact cut_at [(0, ptr kb), (3, ptr b3), (5, ptr b5), (6, .bool true)] ⟨rfl, rfl, rfl, rfl, trivial⟩ (oneG_rest9 kr (g1.chg.nil hc14) (B3.chg hc14 (by simp)) (show Blk h4 b5 (ruleC r) from p4.blk) hr hin hold)
 ·intro b5 h2 g2
  refine callq_ret rules_calls ?_
  rintro _ h3 ⟨rb, rfl, mr, hrb, hc3⟩
  refine Ai hc3.ext ?_
  refine Ai rfl (Ei (entsI ruleL 0) (Ei 15 (Ai mr (Ai (entsI_fits _ _) ?_))))
  have B5 : Blk h3 b5 [.bool false, .bool false, .bool false, .int .i64 0, .bool false, .nilFunc] := (show Blk h2 b5 _ from g2.blk).chg hc3 (by simp)
  have i5 := g2.id
  have l3 := B3.lt
  have z1 := g1.size
  have hc13 := g2.chg.nil hc3
  rcases rule_find e.op with ⟨hr, hmf⟩ | ⟨r, j, hr, hmf⟩
  ·rw [hmf]
   refine Ei _ (Ai B5 (Ai (by decide) (Ai rfl (Ai (by decide) ?_))))
   intro h4 p4
   have hc14 : Chg [] h h4 := (g1.chg.nil hc13).fresh p4.chg (by simp; omega)
   exact cut_at [(0, ptr kb), (3, ptr b3), (5, ptr b5), (6, .bool false)] ⟨rfl, rfl, rfl, rfl, trivial⟩ (oneG_bad9 kr hc14 hr)
  ·rw [hmf]
   refine Ei _ (Ai B5 (Ai (by decide) (Ai rfl (Ai (rule_ones r) ?_))))
   intro h4 p4
   have hc14 : Chg [] h h4 := (g1.chg.nil hc13).fresh p4.chg (by simp; omega)
   exact cut_at [(0, ptr kb), (3, ptr b3), (5, ptr b5), (6, .bool true)] ⟨rfl, rfl, rfl, rfl, trivial⟩ (oneG_rest9 kr hc14 ((B3.chg hc13 (by simp)).chg p4.chg (by simp; omega)) (show Blk h4 b5 (ruleC r) from p4.blk) hr hin hold)
theorem one_space9 {h : Heap} {kb sb mb c : Nat} {m : List KI} {S : Space} {e : Eff} (kr : KR h kb sb mb c m) (hs : Sorted m S) (hi : InS S) :
  CallsH Tryz.prog 43 [ptr kb, .agg ⟨encD e⟩] h (Ret fun r h' => r = .int .i64 (fateS S e).num ∧ ∃ c' m', (KR h' kb sb mb c' m' ∧ ∀ i ∈ m', i ∈ m ∨ KiF h.size i) ∧ Sorted m' ((fateS S e).space S e.key) ∧ Chg [mb] h h') := by
 refine (oneG9_calls kr (in_things hs hi) (old_find hs e.key)).mono fun en h' he => ?_
 cases en with
 |returned v =>
  obtain ⟨h1, c', m', h2, h3, h4⟩ := he
  have e1 : m.length = S.length := (sorted_len kr.nodup hs).symm
  rw [e1] at h1 h3
  exact ⟨h1, c', m', h2, fate_sorted hs h3, h4⟩
 |panicked ch => exact he.elim
 |outgrown => exact he.elim
theorem ApplyG9_calls {h : Heap} {kb sb mb c : Nat} {m : List KI} {S : Space} {v : Value} {d : List Eff} (kr : KR h kb sb mb c m) (hs : Sorted m S) (hi : InS S) (hv : ∀ h', Chg [mb] h h' → SL encD h' v d) (hd : d.length < 4611686018427387904) :
  CallsH Tryz.prog 21 [ptr kb, v] h (Ret fun r h' => r = .tuple #[.int .i64 (applyS S d).2.1, .int .i64 (applyS S d).2.2] ∧ ∃ c' m', (KR h' kb sb mb c' m' ∧ ∀ i ∈ m', i ∈ m ∨ KiF h.size i) ∧ Sorted m' (applyS S d).1 ∧ InS (applyS S d).1 ∧ Chg [mb] h h') := by
 have c0 : Chg [mb] h h := (Chg.refl h).mono (by simp)
 obtain ⟨a, cc, rfl, hlc⟩ := (hv h c0).form
 refine f21_calls (by simp) ?_
 refine call_ret (none_calls kr.ks) ?_
 rintro _ h9 ⟨rfl, e9⟩
 have e9 := e9.symm
 subst e9
 refine loop_intro (fun k : Nat => [(0, ptr kb), (6, .int .i64 k), (7, .int .i64 0), (12, .slice a d.length cc), (13, .int .i64 d.length), (14, .int .i64 k)])
  (fun k h' => k ≤ d.length ∧ Chg [mb] h h' ∧ ∃ c' m' S', (KR h' kb sb mb c' m' ∧ ∀ i ∈ m', i ∈ m ∨ KiF h.size i) ∧ Sorted m' S' ∧ InS S' ∧ applyS S d = ((applyS S' (d.drop k)).1, (applyS S' (d.drop k)).2.1 + k, (applyS S' (d.drop k)).2.2)) (fun k => d.length - k) 0
  ⟨rfl, rfl, rfl, rfl, rfl, rfl, trivial⟩ ⟨Nat.zero_le _, c0, c, m, S, ⟨kr, fun i hi => .inl hi⟩, hs, hi, rfl⟩ ?_
 rintro k h1 ⟨hk, c1, c', m', S', ⟨kr1, fr1⟩, hs1, hi1, hap⟩
 refine Ai rfl (Ai (fun hlt => ?_) (fun hlt => ?_))
 ·have hlt : k < d.length := by omega
  have hv1 := hv h1 c1
  obtain ⟨b, o, rfl⟩ := hv1.addr (by omega)
  have hcs := hv1.cells encD_len (i := k) (x := d[k]) (by simp [hlt])
  rw [List.drop_eq_getElem_cons hlt] at hap
  refine Ai (by omega) (Ai (by omega) (Ei (encD d[k]) (Ai rfl (Ai hcs ?_))))
  intro b9 h2 g2
  refine Ei _ (Ai g2.blk (Ai (by decide) (Ai rfl (Ai (encD_one _) ?_))))
  intro h3 p3
  have g3 := g2.put p3
  have B9 : Blk h3 b9 (encD d[k]) := p3.blk
  refine Ei (encD d[k]) (Ai rfl (Ai (cells_blk B9) ?_))
  refine call_ret (one_space9 (kr1.ext g3.chg) hs1 hi1) ?_
  rintro _ h4 ⟨rfl, c4, m4, ⟨kr4, fr4⟩, hs4, ch4⟩
  have fr4 : ∀ i ∈ m4, i ∈ m ∨ KiF h.size i := fun i hi => by
   have z1 := c1.size; have z3 := g3.chg.size
   rcases fr4 i hi with h | h
   ·exact fr1 i h
   ·exact .inr (h.mono (by omega))
  have c14 : Chg [mb] h h4 := (c1.step g3.chg (by simp)).step ch4 (by simp)
  refine Ai rfl (Ai (fun hne => ?_) (fun hne => ?_))
  ·rw [applyS_no hne] at hap
   rw [no_space hne] at hs4
   rw [hap]
   refine Ai ?_ (Ei c4 (Ei m4 (Ai ⟨kr4, fr4⟩ (Ai hs4 (Ai hi1 c14)))))
   show Value.tuple _ = Value.tuple #[.int .i64 ((0 + k : Nat) : Int), _]
   rw [Nat.zero_add]
  ·have hz := Decidable.not_not.1 hne
   rw [applyS_yes hz] at hap
   refine Ai rfl (fun z hz' => ?_)
   have hz' := add_in hz' (by omega) (by omega)
   subst hz'
   refine Ai rfl (fun y hy => ?_)
   have hy := add_in hy (by omega) (by omega)
   subst hy
   rw [hz]
   refine Ai rfl (Ei (k + 1) (Ai ?_ (Ai ?_ ?_)))
   ·exact ⟨rfl, rfl, rfl, rfl, rfl, rfl, trivial⟩
   ·exact ⟨by omega, c14, c4, m4, _, ⟨kr4, fr4⟩, hs4, in_space hi1, by rw [hap]; simp only [Nat.add_assoc, Nat.add_comm 1 k]⟩
   ·omega
 ·have hkl : k = d.length := by omega
  subst hkl
  rw [List.drop_length, applyS] at hap
  rw [hap]
  refine Ai ?_ (Ei c' (Ei m' (Ai ⟨kr1, fr1⟩ (Ai hs1 (Ai hi1 c1)))))
  show Value.tuple _ = Value.tuple #[.int .i64 ((0 + d.length : Nat) : Int), _]
  rw [Nat.zero_add]
def hT (n s : ByteArray) : Thing := ⟨2, noText, [⟨n, s⟩], [], [], false, 0⟩
def lT (l : List ByteArray) : Thing := ⟨3, noText, [], l, [], false, 0⟩
def sT (n : ByteArray) : Thing := ⟨4, noText, [], [n], [], false, 0⟩
def zT (n : ByteArray) (z : Int) : Thing := ⟨5, noText, [], [], [⟨n, z⟩], false, 0⟩
section
variable {key n s t : ByteArray} {now z : Int} {u : Thing} {e : Eff} {r : Rule}
theorem find_own : findS [(key, u)] key = some u := by simp [findS]
theorem get_own (h : u.hasU = false) : getS [(key, u)] key now = some u := by
 unfold getS
 rw [find_own]
 simp [goneT, h]
theorem put_again {v : Thing} : putS [(key, u)] key v = [(key, v)] := by
 unfold putS
 simp [sless_irrefl]
theorem endF_own {b f : Bool} (h0 : countT u ≠ 0) (h1 : countT u ≤ 65536) (hf : f = false) : endF (u, 0) b f = .put u := by
 unfold endF
 rw [if_neg (fun h => h rfl), if_neg (fun h => h0 h.2), if_neg]
 rintro (h | ⟨_, h⟩)
 ·have h : 65536 < countT u := h
  omega
 ·rw [hf] at h; cases h
theorem fate_one (f : FitE e r) (hm : r.makes = true) (hd : doneT { zeroT with kind := r.kind } e = (u, 0)) (h0 : countT u ≠ 0) (h1 : countT u ≤ 65536) (hk : e.key = key) : fateS [] e = .put u := by
 unfold fateS
 rw [show findS [] e.key = none from rfl, f.makes hm, hd]
 exact endF_own h0 h1 rfl
theorem fate_next {v : Thing} (f : FitE e r) (hu : r.kind ≠ 0 → u.kind = r.kind) (hd : doneT u e = (v, 0)) (h0 : countT v ≠ 0) (h1 : countT v ≤ 65536) (hk : e.key = key) : fateS [(key, u)] e = .put v := by
 unfold fateS
 rw [hk, find_own, f.is hu, hd]
 exact endF_own h0 h1 rfl
theorem gets_nil : getS [] key now = none := rfl
theorem told_hset (hk : key.size ≤ 300) (hn : n.size ≤ 300) (hs : s.size ≤ 300) : cHset [] now [key, n, s] = .ok (numR 1, [hashE key n s]) := by
 have h1 : key.size ≤ 1048576 := by omega
 have h2 : n.size ≤ 1048576 := by omega
 have h3 : s.size ≤ 1048576 := by omega
 simp [cHset, kindly, gets_nil, makes, newL, thereH, fieldF, zeroT, twos, small, dropsS, findS, h1, h2, h3]
theorem told_hall (hk : key.size ≤ 300) (hn : n.size ≤ 300) (hs : s.size ≤ 300) : allS [] [hashE key n s] = some [(key, hT n s)] := by
 have f : fateS [] (hashE key n s) = .put (hT n s) := fate_one (key := key) (r := ⟨true, true, false, 2, true, 189⟩) ⟨rfl, fun h => (nomatch h), fun h => (nomatch h), fun _ => rfl, by show key.size ≤ _; omega, by show n.size ≤ _; omega, by show s.size ≤ _; omega⟩ rfl rfl (by show (1 : Nat) ≠ 0; omega) (by show (1 : Nat) ≤ _; omega) rfl
 rw [all_one (by rw [f]; rfl), f]
 rfl
theorem told_hget : cHget [(key, hT n s)] now [key, n] = .ok (textR s, []) := by
 simp [cHget, arg2, kindly, get_own, hT, fieldF]
theorem told_sadd (hk : key.size ≤ 300) (hn : n.size ≤ 300) : cSadd [] now [key, n] = .ok (numR 1, [addE key n]) := by
 have h1 : key.size ≤ 1048576 := by omega
 have h2 : n.size ≤ 1048576 := by omega
 simp [cSadd, kindly, gets_nil, makes, newL, thereL, zeroT, small, dropsS, findS, h1, h2]
theorem told_sall (hk : key.size ≤ 300) (hn : n.size ≤ 300) : allS [] [addE key n] = some [(key, sT n)] := by
 have f : fateS [] (addE key n) = .put (sT n) := fate_one (key := key) (r := ⟨true, false, false, 4, true, 197⟩) ⟨rfl, fun h => (nomatch h), fun _ => rfl, fun _ => rfl, by show key.size ≤ _; omega, by show n.size ≤ _; omega, by show (0 : Nat) ≤ _; omega⟩ rfl rfl (by show (1 : Nat) ≠ 0; omega) (by show (1 : Nat) ≤ _; omega) rfl
 rw [all_one (by rw [f]; rfl), f]
 rfl
theorem told_sis : cSis [(key, sT n)] now [key, n] = .ok (numR 1, []) := by
 simp [cSis, arg2, kindly, get_own, sT, thereL]
theorem told_zadd {d : ByteArray} (hd : numOf d = some z) (hk : key.size ≤ 300) (hn : n.size ≤ 300) : cZadd [] now [key, d, n] = .ok (numR 1, [rankE key n z]) := by
 have h1 : key.size ≤ 1048576 := by omega
 have h2 : n.size ≤ 1048576 := by omega
 simp [cZadd, scored, twos, hd, kindly, gets_nil, makes, newL, thereR, scoreF, zeroT, small, dropsS, findS, h1, h2]
theorem told_zall (hk : key.size ≤ 300) (hn : n.size ≤ 300) : allS [] [rankE key n z] = some [(key, zT n z)] := by
 have f : fateS [] (rankE key n z) = .put (zT n z) := fate_one (key := key) (r := ⟨true, false, true, 5, true, 199⟩) ⟨rfl, fun h => (nomatch h), fun _ => rfl, fun h => (nomatch h), by show key.size ≤ _; omega, by show n.size ≤ _; omega, by show (0 : Nat) ≤ _; omega⟩ rfl rfl (by show (1 : Nat) ≠ 0; omega) (by show (1 : Nat) ≤ _; omega) rfl
 rw [all_one (by rw [f]; rfl), f]
 rfl
theorem told_zscore : cZscore [(key, zT n z)] now [key, n] = .ok (textR ⟨⟨Lib.itoa z⟩⟩, []) := by
 simp [cZscore, arg2, kindly, get_own, zT, scoreF]
theorem told_rpush (hk : key.size ≤ 300) (hn : n.size ≤ 300) (hs : s.size ≤ 300) : cPush [] now tailE [key, s, n] = .ok (numR 2, [tailE key s, tailE key n]) := by
 have h1 : key.size ≤ 1048576 := by omega
 have h2 : n.size ≤ 1048576 := by omega
 have h3 : s.size ≤ 1048576 := by omega
 simp [cPush, kindly, gets_nil, makes, zeroT, small, dropsS, findS, h1, h2, h3]
theorem told_lall (hk : key.size ≤ 300) (hn : n.size ≤ 300) (hs : s.size ≤ 300) : allS [] [tailE key s, tailE key n] = some [(key, lT [s, n])] := by
 have f : fateS [] (tailE key s) = .put (lT [s]) := fate_one (key := key) (r := ⟨false, true, false, 3, true, 193⟩) ⟨rfl, fun _ => rfl, fun h => (nomatch h), fun _ => rfl, by show key.size ≤ _; omega, by show (0 : Nat) ≤ _; omega, by show s.size ≤ _; omega⟩ rfl rfl (by show (1 : Nat) ≠ 0; omega) (by show (1 : Nat) ≤ _; omega) rfl
 have g : fateS [(key, lT [s])] (tailE key n) = .put (lT [s, n]) := fate_next (key := key) (r := ⟨false, true, false, 3, true, 193⟩) ⟨rfl, fun _ => rfl, fun h => (nomatch h), fun _ => rfl, by show key.size ≤ _; omega, by show (0 : Nat) ≤ _; omega, by show n.size ≤ _; omega⟩ (fun _ => rfl) rfl (by show (2 : Nat) ≠ 0; omega) (by show (2 : Nat) ≤ _; omega) rfl
 show allS [] ([tailE key s] ++ [tailE key n]) = _
 rw [all_append, all_one (by rw [f]; rfl), f]
 show allS [(key, lT [s])] [tailE key n] = _
 rw [all_one (by rw [g]; rfl), g]
 show some (putS [(key, lT [s])] key (lT [s, n])) = _
 rw [put_again]
theorem num_itoa9 {n : Int} (h : In64 n) : numOf ⟨⟨Lib.itoa n⟩⟩ = some n := (Num.num_iff rfl (Lib.itoa n) n).2 ⟨⟨by have := h.1; omega, by have := h.2; omega⟩, rfl⟩
theorem digits9_calls {h : Heap} {n : Int} (hl : LaidN h) (hn : In64 n) : CallsH Tryz.prog 18 [.int .i64 n] h (Ret fun r h' => r = .string ⟨⟨Lib.itoa n⟩⟩ ∧ Chg [] h h') := by
 refine f18_calls (by simp) ?_
 refine call_ret (format_calls hl hn.1 hn.2) ?_
 rintro _ h1 ⟨rfl, c1⟩
 exact ⟨rfl, c1⟩
def s0 : ByteArray := ⟨#[48]⟩
def sm1 : ByteArray := ⟨#[45, 49]⟩
theorem num_s0 : numOf s0 = some 0 := by
 rw [show s0 = ⟨⟨Lib.itoa 0⟩⟩ by kernel_rfl]
 exact num_itoa9 ⟨by decide, by decide⟩
theorem num_sm1 : numOf sm1 = some (-1) := by
 rw [show sm1 = ⟨⟨Lib.itoa (-1)⟩⟩ by kernel_rfl]
 exact num_itoa9 ⟨by decide, by decide⟩
theorem told_lindex : cLindex [(key, lT [s, n])] now [key, s0] = .ok (textR s, []) := by
 simp [cLindex, arg2, numbered, num_s0, kindly, get_own, lT, placeN]
theorem told_rpop : cPop [(key, lT [s, n])] now untailE (-1) [key] = .ok (textR n, [untailE key]) := by
 simp [cPop, arg1, kindly, get_own, lT, placeN]
theorem told_pall (hk : key.size ≤ 300) : allS [(key, lT [s, n])] [untailE key] = some [(key, lT [s])] := by
 have g : fateS [(key, lT [s, n])] (untailE key) = .put (lT [s]) := fate_next (key := key) (r := ⟨false, false, false, 3, false, 195⟩) ⟨rfl, fun _ => rfl, fun _ => rfl, fun _ => rfl, by show key.size ≤ _; omega, by show (0 : Nat) ≤ _; omega, by show (0 : Nat) ≤ _; omega⟩ (fun _ => rfl) rfl (by show (1 : Nat) ≠ 0; omega) (by show (1 : Nat) ≤ _; omega) rfl
 rw [all_one (by rw [g]; rfl), g]
 show some (putS [(key, lT [s, n])] key (lT [s])) = _
 rw [put_again]
theorem told_lrange : cLrange [(key, lT [s])] now [key, s0, sm1] = .ok (listR [s], []) := by
 simp [cLrange, arg3, numbered, num_s0, num_sm1, kindly, get_own, lT, spanL, spanN, spanA, spanB]
theorem s9_one (h : T9 u) : S9 [(key, u)] := fun p hp => by
 rw [List.mem_singleton.1 hp]; exact h
theorem t9_h (hs : s.size ≤ 300) : T9 (hT n s) := ⟨by show (1 : Nat) ≤ _; omega, by show (0 : Nat) ≤ _; omega, by show (0 : Nat) ≤ _; omega, fun p hp => by rw [List.mem_singleton.1 hp]; show s.size ≤ _; omega, fun r hr => (nomatch hr), fun r hr => (nomatch hr), fun x hx => (nomatch hx)⟩
theorem t9_s (hn : n.size ≤ 300) : T9 (sT n) := ⟨by show (0 : Nat) ≤ _; omega, by show (1 : Nat) ≤ _; omega, by show (0 : Nat) ≤ _; omega, fun p hp => (nomatch hp), fun r hr => (nomatch hr), fun r hr => (nomatch hr), fun x hx => by rw [List.mem_singleton.1 hx]; omega⟩
theorem t9_z (hn : n.size ≤ 300) (hz : In64 z) : T9 (zT n z) := ⟨by show (0 : Nat) ≤ _; omega, by show (0 : Nat) ≤ _; omega, by show (1 : Nat) ≤ _; omega, fun p hp => (nomatch hp), fun r hr => by rw [List.mem_singleton.1 hr]; exact hz, fun r hr => by rw [List.mem_singleton.1 hr]; show n.size ≤ _; omega, fun x hx => (nomatch hx)⟩
theorem t9_l {l : List ByteArray} (hl : l.length ≤ 20) (h : ∀ x ∈ l, x.size ≤ 300) : T9 (lT l) := ⟨by show (0 : Nat) ≤ _; omega, by show l.length ≤ _; omega, by show (0 : Nat) ≤ _; omega, fun p hp => (nomatch hp), fun r hr => (nomatch hr), fun r hr => (nomatch hr), fun x hx => by have := h x hx; omega⟩
end
theorem ch_other9 {h h' : Heap} {mb c : Nat} {es : List MapEntry} (hm : MapB h mb es c) (hc : Chg [mb] h h') : CH h h' := by
 refine ⟨fun b l hb => hb.chg hc (by simpa using ne_map hb hm), fun b o v hv => ?_⟩
 refine cell_chg hv hc ?_
 simp
 rintro rfl
 have hm : h[b]? = _ := hm
 unfold Sx.cell at hv
 rw [hm] at hv; cases hv
theorem kr_other9 {h h' : Heap} {kb sb mb c kb2 sb2 m2 c2 : Nat} {m m' : List KI} (x : KR h kb sb mb c m) (y : KR h kb2 sb2 m2 c2 m') (hc : Chg [m2] h h') (hne : mb ≠ m2) : KR h' kb sb mb c m := by
 have hh := ch_other9 y.map hc
 refine ⟨x.ks.ch hh, ?_, fun i hi => ?_, x.nodup, x.born, x.borns, x.keys, x.len⟩
 ·show h'[mb]? = _
  rw [hc.old mb (get_lt x.map) (by simpa using hne)]; exact x.map
 ·obtain ⟨h1, h2, h3⟩ := x.here i hi
  exact ⟨hh.blk _ _ h1, h2.ch hh, h3⟩
theorem sl_map9 {α : Type} {enc : α → List Value} {size : Nat} (hsz : ∀ x, (enc x).length = size + 1) {h h' : Heap} {v : Value} {l : List α} {mb c : Nat} {es : List MapEntry} (hs : SL enc h v l) (hm : MapB h mb es c) (hc : Chg [mb] h h') : SL enc h' v l := by
 cases l with
 |nil =>
  obtain ⟨a, cc, rfl, h1, h2⟩ := hs
  refine ⟨a, cc, rfl, h1, ?_⟩
  cases a with
  |none => exact h2
  |some a =>
   obtain ⟨b, o, sp⟩ := a
   cases sp with
   |none => exact fun i v hv => by simp at hv
   |some k => exact h2
 |cons x l =>
  obtain ⟨a, cc, rfl, h1⟩ := hs.form
  obtain ⟨b, o, rfl⟩ := hs.addr (by simp)
  refine hs.chg hc fun k hk => ?_
  have hk : k = b := by simpa [vblk, ablk] using hk
  subst hk
  simp
  rintro rfl
  have h9 := hs.cells hsz (i := 0) (x := x) rfl
  have h8 := hsz x
  cases he : enc x with
  |nil => rw [he] at h8; simp at h8
  |cons y ys =>
   rw [he] at h9
   have h7 := h9 0 y rfl
   have hm : h[k]? = _ := hm
   unfold Sx.cell at h7
   rw [hm] at h7; cases h7
def Kp (h : Heap) (kb sb mb : Nat) (S : Space) : Prop := ∃ c m, KR h kb sb mb c m ∧ Sorted m S ∧ InS S
theorem Kp.ext {h h' : Heap} {kb sb mb : Nat} {S : Space} (x : Kp h kb sb mb S) (hc : Chg [] h h') : Kp h' kb sb mb S := by
 obtain ⟨c, m, kr, hs, hi⟩ := x
 exact ⟨c, m, kr.ext hc, hs, hi⟩
theorem Kp.other {h h' : Heap} {kb sb mb kb2 sb2 m2 : Nat} {S S2 : Space} (x : Kp h kb sb mb S) (y : Kp h kb2 sb2 m2 S2) (hc : Chg [m2] h h') (hne : mb ≠ m2) : Kp h' kb sb mb S := by
 obtain ⟨c, m, kr, hs, hi⟩ := x
 obtain ⟨c', m', kr', _, _⟩ := y
 exact ⟨c, m, kr_other9 kr kr' hc hne, hs, hi⟩
theorem Kp.lt {h : Heap} {kb sb mb : Nat} {S : Space} (x : Kp h kb sb mb S) : mb < h.size := by
 obtain ⟨c, m, kr, _, _⟩ := x
 exact get_lt kr.map
theorem sl_rep9 {h h' : Heap} {v : Value} {l : List (Int × Int × ByteArray)} {b : Nat} (hs : SL encQ h v l) (hb : Blk h b [.int .i64 0, .int .i64 0, .string ⟨#[]⟩, .slice none 0 0]) (hl : ∀ x ∈ l, x.1 ≠ 0) (hc : Chg [b] h h') : SL encQ h' v l := by
 cases l with
 |nil =>
  obtain ⟨a, cc, rfl, h1, h2⟩ := hs
  refine ⟨a, cc, rfl, h1, ?_⟩
  cases a with
  |none => exact h2
  |some a =>
   obtain ⟨b, o, sp⟩ := a
   cases sp with
   |none => exact fun i v hv => by simp at hv
   |some k => exact h2
 |cons x l =>
  obtain ⟨a, cc, rfl, h1⟩ := hs.form
  obtain ⟨b', o, rfl⟩ := hs.addr (by simp)
  refine hs.chg hc fun k hk => ?_
  have hk : k = b' := by simpa [vblk, ablk] using hk
  subst hk
  simp
  rintro rfl
  have h9 := hs.cells encQ_len (i := 0) (x := x) rfl
  have h3 := h9 3 _ rfl
  have h0 := h9 0 _ rfl
  obtain ⟨e, he⟩ := hb
  unfold Sx.cell at h3 h0
  rw [he] at h3 h0
  match o, h3, h0 with
  |0, _, h0 =>
   have h0 : some (Value.int .i64 0) = some (Value.int .i64 x.1) := h0
   simp at h0
   exact hl x (by simp) h0.symm
  |o + 1, h3, _ => simp at h3
theorem st_own9 {h : Heap} {e : En} (he : e.at h) : St e.fp h h [e] := by
 refine ⟨(Chg.refl h).mono (by simp), fun i e1 hi => ?_, fun i j e1 f hi hj hn => ?_⟩
 ·match i, hi with
  |0, hi => cases hi; exact ⟨he, fun b hb => .inl hb⟩
 ·match i, j, hi, hj, hn with
  |0, 0, _, _, hn => exact absurd rfl hn
theorem th_chg9 {S : List Nat} {h h' : Heap} {vs : List Value} {t : Thing} (x : TH h vs t) (hc : Chg S h h') (hn : ∀ v ∈ vs, ∀ b ∈ vblk v, b ∉ S) : TH h' vs t := by
 obtain ⟨pv, lv, rv, rfl, h1, h2, h3⟩ := x
 exact ⟨pv, lv, rv, rfl, h1.chg hc (hn pv (by simp [cellsT])), h2.chg hc (hn lv (by simp [cellsT])), h3.chg hc (hn rv (by simp [cellsT]))⟩
theorem done9F {h : Heap} {kb sb mb c : Nat} {m : List KI} {S S' : Space} {now : Int} {av : Value} {q : Rep} {E : List Eff} (kr : KR h kb sb mb c m) (hs : Sorted m S) (hi : InS S) (hd : ∀ h1, Chg [] h h1 → CallsH Tryz.prog 20 [ptr kb, .int .i64 now, av] h1 (Ret (DoR h1 (.ok (q, E))))) (ha : allS S E = some S') (hE : E.length ≤ 10) (hq : ∀ x ∈ q.l, x.1 ≠ 0) :
  CallsH Tryz.prog 17 [ptr kb, .int .i64 now, av] h (Ret fun r h' => ∃ ra rn rc, r = .tuple #[.agg ⟨[.int .i64 q.k, .int .i64 q.i, .string q.s, .slice ra rn rc]⟩, .bool true] ∧ SL encQ h' (.slice ra rn rc) q.l ∧ (∃ c' m', (KR h' kb sb mb c' m' ∧ ∀ i ∈ m', i ∈ m ∨ KiF h.size i) ∧ Sorted m' S' ∧ InS S') ∧ Chg [mb] h h') := by
 have hap := all_apply ha
 have hlm : mb < h.size := get_lt kr.map
 have w : St [mb] h h [ltE mb] := st_own9 (e := ltE mb) hlm
 refine f17_calls (by simp) ?_
 intro b6 h1 g1
 have w := w.new g1
 refine call_ret (hd h1 g1.chg) ?_
 rintro r3 h3 ⟨c3, hr⟩
 obtain ⟨vq, lv, rfl, ⟨ra, rn, rc, rfl, sl, fr⟩, hsl, hfr⟩ := hr
 obtain ⟨la, lc, rfl, _⟩ := hsl.form
 have w := w.ext c3
 have B6 : Blk h3 b6 _ := w.get 0 rfl
 have z1 := g1.size; have i1 := g1.id; have z3 := c3.size
 intro b8 h4 g4
 have w := w.new g4
 have i8 := g4.id
 refine w.st2 0 rfl rfl rfl rfl fun h5 w k5 => ?_
 have c35 : Chg [] h3 h5 := g4.chg.fresh k5 (by simp; omega)
 have c05 : Chg [] h h5 := (g1.chg.nil c3).nil c35
 have B6 : Blk h5 b6 _ := w.get 1 rfl
 refine call_ret (ApplyG9_calls (kr.ext c05) hs hi (fun h' hc => (hsl.ext c35).chg hc fun b hb => by have := hfr b hb; simp; omega) (by omega)) ?_
 rintro _ h6 ⟨rfl, c', m', ⟨kr', fr'⟩, hs', in', c6⟩
 rw [hap] at hs' in' ⊢
 have w := w.set (e' := ltE mb) 2 rfl c6 (fun b hb => .inl hb) (Nat.lt_of_lt_of_le (show mb < _ from w.get 2 rfl) c6.size) (fun b hb => .inl hb)
 have s6 := sl_map9 (size := 3) (fun _ => rfl) (sl.ext c35) (kr.ext c05).map c6
 refine w.ldn 0 rfl rfl ?_
 refine Ai rfl (Ai (fun _ => ?_) (fun hne => absurd rfl hne))
 have B6 : Blk h6 b6 [.int .i64 0, .int .i64 0, .string ⟨#[]⟩, .slice none 0 0] := w.get 1 rfl
 refine w.st2 1 rfl rfl rfl rfl fun h7 w k7 => ?_
 have s7 := sl_rep9 s6 B6 hq k7
 have c07 : Chg [mb] h h7 := w.chg
 have hh := ch_other9 kr.map c07
 have z5 := c35.size
 have kr7 : KR h7 kb sb mb c' m' := by
  refine ⟨kr.ks.ch hh, kr'.map.chg k7 (by simp; omega), fun i hi => ?_, kr'.nodup, kr'.born, kr'.borns, kr'.keys, kr'.len⟩
  rcases fr' i hi with ho | hn
  ·obtain ⟨h1, h2, h3⟩ := kr.here i ho
   exact ⟨hh.blk _ _ h1, h2.ch hh, h3⟩
  ·obtain ⟨h1, h2, h3⟩ := kr'.here i hi
   have hn1 := hn.1
   exact ⟨h1.chg k7 (by simp; omega), th_chg9 h2 k7 fun v hv b hb => by have := hn.2 v hv b hb; simp; omega, h3⟩
 exact ⟨_, rfl, cells_blk (w.get 1 rfl), ra, rn, rc, rfl, s7, ⟨c', m', ⟨kr7, fun i hi => (fr' i hi).imp id fun hf => hf.mono c05.size⟩, hs', in'⟩, c07⟩
theorem done9 {h : Heap} {kb sb mb : Nat} {S S' : Space} {now : Int} {av : Value} {q : Rep} {E : List Eff} (x : Kp h kb sb mb S) (hd : ∀ h1, Chg [] h h1 → CallsH Tryz.prog 20 [ptr kb, .int .i64 now, av] h1 (Ret (DoR h1 (.ok (q, E))))) (ha : allS S E = some S') (hE : E.length ≤ 10) (hq : ∀ x ∈ q.l, x.1 ≠ 0) :
  CallsH Tryz.prog 17 [ptr kb, .int .i64 now, av] h (Ret fun r h' => ∃ ra rn rc, r = .tuple #[.agg ⟨[.int .i64 q.k, .int .i64 q.i, .string q.s, .slice ra rn rc]⟩, .bool true] ∧ SL encQ h' (.slice ra rn rc) q.l ∧ Kp h' kb sb mb S' ∧ Chg [mb] h h') := by
 obtain ⟨c, m, kr, hs, hi⟩ := x
 refine (done9F kr hs hi hd ha hE hq).mono fun en h' he => ?_
 cases en with
 |returned v =>
  obtain ⟨ra, rn, rc, h1, h2, ⟨c', m', ⟨h3, _⟩, h4, h5⟩, h6⟩ := he
  exact ⟨ra, rn, rc, h1, h2, ⟨c', m', h3, h4, h5⟩, h6⟩
 |panicked ch => exact he.elim
 |outgrown => exact he.elim
theorem Kp.empty {h : Heap} {kb sb mb : Nat} (x : Kp h kb sb mb []) : ∃ c, KR h kb sb mb c [] := by
 obtain ⟨c, m, kr, hs, _⟩ := x
 cases m with
 |nil => exact ⟨c, kr⟩
 |cons i m => exact absurd ((hs.mem i.pr).2 (by simp)) (by simp)
theorem kr_far9 {T : List Nat} {h h' : Heap} {kb sb mb c : Nat} {m : List KI} (kr : KR h kb sb mb c m) (hc : Chg T h h') (h1 : kb ∉ T) (h2 : sb ∉ T) (h3 : mb ∉ T) (hm : ∀ i ∈ m, i.tb ∉ T ∧ ∀ v ∈ i.vs, ∀ b ∈ vblk v, b ∉ T) : KR h' kb sb mb c m :=
 ⟨kr.ks.chg hc h1 h2, kr.map.chg hc h3, fun i hi => ⟨(kr.here i hi).1.chg hc (hm i hi).1, th_chg9 (kr.here i hi).2.1 hc (hm i hi).2, (kr.here i hi).2.2⟩, kr.nodup, kr.born, kr.borns, kr.keys, kr.len⟩
theorem Kp.far {T : List Nat} {h h' : Heap} {kb sb mb : Nat} (x : Kp h kb sb mb []) (hc : Chg T h h') (h1 : kb ∉ T) (h2 : sb ∉ T) (h3 : mb ∉ T) : Kp h' kb sb mb [] := by
 obtain ⟨c, kr⟩ := x.empty
 exact ⟨c, [], kr_far9 kr hc h1 h2 h3 (fun i hi => (nomatch hi)), ⟨List.Pairwise.nil, by simp⟩, fun p hp => (nomatch hp)⟩
theorem Kp.lt3 {h : Heap} {kb sb mb : Nat} {S : Space} (x : Kp h kb sb mb S) : kb < h.size ∧ sb < h.size ∧ mb < h.size := by
 obtain ⟨c, m, kr, _, _⟩ := x
 exact ⟨kr.ks.k.lt, kr.ks.s.lt, get_lt kr.map⟩
end Go.Proofs.YtjnijlnmbjjgpaaGreatDoor
namespace Go.Proofs.YtjnijlnmbjjgpaaGreatDoor
open Go Go.Sx C
section
variable {S : Space} {k n key s : ByteArray} {now kd items at_ : Int} {t : Thing} {e : Eff} {r : Rep} {E : List Eff} {A : List ByteArray} {ok : Bool} {f : Thing → Res}
end
end Go.Proofs.YtjnijlnmbjjgpaaGreatDoor
namespace Go.Proofs.YtjnijlnmbjjgpaaGreatDoor
open Go Go.Sx C
namespace SI
end SI
section
variable {ms : List MapEntry} {c : Nat} {ks : List ByteArray} {f : ByteArray → Nat} {k : ByteArray}
end
section
variable {h0 h h1 h2 h' : Heap} {ab kb sb mb c b1 b2 : Nat} {now : Int} {av : Value} {A l : List ByteArray} {m : List KI} {S : Space}
end
end Go.Proofs.YtjnijlnmbjjgpaaGreatDoor
namespace Go.Proofs.YtjnijlnmbjjgpaaGreatDoor
open Go Go.Sx C
section
variable {h : Heap} {kb sb mb : Nat} {now z : Int} {av : Value} {key n s : ByteArray}
theorem itoa_300 (hz : In64 z) : (⟨⟨Lib.itoa z⟩⟩ : ByteArray).size ≤ 300 := by
 have h9 : (Lib.itoa (0 + z)).length ≤ 20 := itoa_len (k := 0) (n := z) ⟨by have := hz.1; omega, by have := hz.2; omega⟩
 rw [Int.zero_add] at h9
 show (Lib.itoa z).length ≤ _
 omega
def DoneR (h : Heap) (kb sb mb : Nat) (q : Rep) (S : Space) (r : Value) (h' : Heap) : Prop :=
 ∃ ra rn rc, r = .tuple #[.agg ⟨[.int .i64 q.k, .int .i64 q.i, .string q.s, .slice ra rn rc]⟩, .bool true] ∧ SL encQ h' (.slice ra rn rc) q.l ∧ Kp h' kb sb mb S ∧ Chg [mb] h h'
def wHSET : ByteArray := ⟨#[72, 83, 69, 84]⟩
theorem t_HSET (x : Kp h kb sb mb []) (hla : LaidN h) (ht : K5.TabH h) (hk : key.size ≤ 300) (hn : n.size ≤ 300) (hs : s.size ≤ 300) (hz : In64 z) (sa : SL encS h av [wHSET, key, n, s]) :
  CallsH Tryz.prog 17 [ptr kb, .int .i64 now, av] h (Ret (DoneR h kb sb mb (numR 1) [(key, hT n s)])) := by
 have s9 : S9 [] := fun p hp => (nomatch hp)
 have hi300 := itoa_300 hz
 have h0 : s0.size ≤ 300 := by decide
 have h1 : sm1.size ≤ 300 := by decide
 have hA : ∀ a ∈ ([key, n, s] : List ByteArray), a.size < 281474976710656 := fun a ha => by
  simp only [List.mem_cons, List.not_mem_nil, or_false] at ha
  rcases ha with rfl | rfl | rfl <;> omega
 refine done9 x (fun h1 c1 => ?_) (told_hall hk hn hs) (by simp) (fun x hx => (nomatch hx))
 obtain ⟨c, m, kr, hs', hi⟩ := x
 have hc := do9_calls (now := now) (w := wHSET) (kr.ext c1) (sa.ext c1) (by simp) (by decide) (by kernel_rfl) (fun h2 ab av' hx x => hset9 ⟨kr.ext c1, hs', hx⟩ s9 hA x)
 rwa [told_hset hk hn hs] at hc
def wHGET : ByteArray := ⟨#[72, 71, 69, 84]⟩
theorem t_HGET (x : Kp h kb sb mb [(key, hT n s)]) (hla : LaidN h) (ht : K5.TabH h) (hk : key.size ≤ 300) (hn : n.size ≤ 300) (hs : s.size ≤ 300) (hz : In64 z) (sa : SL encS h av [wHGET, key, n]) :
  CallsH Tryz.prog 17 [ptr kb, .int .i64 now, av] h (Ret (DoneR h kb sb mb (textR s) [(key, hT n s)])) := by
 have s9 : S9 [(key, hT n s)] := s9_one (t9_h hs)
 have hi300 := itoa_300 hz
 have h0 : s0.size ≤ 300 := by decide
 have h1 : sm1.size ≤ 300 := by decide
 have hA : ∀ a ∈ ([key, n] : List ByteArray), a.size < 281474976710656 := fun a ha => by
  simp only [List.mem_cons, List.not_mem_nil, or_false] at ha
  rcases ha with rfl | rfl <;> omega
 refine done9 (E := []) x (fun h1 c1 => ?_) rfl (by simp) (fun x hx => (nomatch hx))
 obtain ⟨c, m, kr, hs', hi⟩ := x
 have hc := do9_calls (now := now) (w := wHGET) (kr.ext c1) (sa.ext c1) (by simp) (by decide) (by kernel_rfl) (fun h2 ab av' hx x => hget9 ⟨kr.ext c1, hs', hx⟩ s9 x)
 rwa [told_hget] at hc
def wSADD : ByteArray := ⟨#[83, 65, 68, 68]⟩
theorem t_SADD (x : Kp h kb sb mb []) (hla : LaidN h) (ht : K5.TabH h) (hk : key.size ≤ 300) (hn : n.size ≤ 300) (hs : s.size ≤ 300) (hz : In64 z) (sa : SL encS h av [wSADD, key, n]) :
  CallsH Tryz.prog 17 [ptr kb, .int .i64 now, av] h (Ret (DoneR h kb sb mb (numR 1) [(key, sT n)])) := by
 have s9 : S9 [] := fun p hp => (nomatch hp)
 have hi300 := itoa_300 hz
 have h0 : s0.size ≤ 300 := by decide
 have h1 : sm1.size ≤ 300 := by decide
 have hA : ∀ a ∈ ([key, n] : List ByteArray), a.size < 281474976710656 := fun a ha => by
  simp only [List.mem_cons, List.not_mem_nil, or_false] at ha
  rcases ha with rfl | rfl <;> omega
 refine done9 x (fun h1 c1 => ?_) (told_sall hk hn) (by simp) (fun x hx => (nomatch hx))
 obtain ⟨c, m, kr, hs', hi⟩ := x
 have hc := do9_calls (now := now) (w := wSADD) (kr.ext c1) (sa.ext c1) (by simp) (by decide) (by kernel_rfl) (fun h2 ab av' hx x => sadd9 ⟨kr.ext c1, hs', hx⟩ s9 hi hA x)
 rwa [told_sadd hk hn] at hc
def wSISMEMBER : ByteArray := ⟨#[83, 73, 83, 77, 69, 77, 66, 69, 82]⟩
theorem t_SISMEMBER (x : Kp h kb sb mb [(key, sT n)]) (hla : LaidN h) (ht : K5.TabH h) (hk : key.size ≤ 300) (hn : n.size ≤ 300) (hs : s.size ≤ 300) (hz : In64 z) (sa : SL encS h av [wSISMEMBER, key, n]) :
  CallsH Tryz.prog 17 [ptr kb, .int .i64 now, av] h (Ret (DoneR h kb sb mb (numR 1) [(key, sT n)])) := by
 have s9 : S9 [(key, sT n)] := s9_one (t9_s hn)
 have hi300 := itoa_300 hz
 have h0 : s0.size ≤ 300 := by decide
 have h1 : sm1.size ≤ 300 := by decide
 have hA : ∀ a ∈ ([key, n] : List ByteArray), a.size < 281474976710656 := fun a ha => by
  simp only [List.mem_cons, List.not_mem_nil, or_false] at ha
  rcases ha with rfl | rfl <;> omega
 refine done9 (E := []) x (fun h1 c1 => ?_) rfl (by simp) (fun x hx => (nomatch hx))
 obtain ⟨c, m, kr, hs', hi⟩ := x
 have hc := do9_calls (now := now) (w := wSISMEMBER) (kr.ext c1) (sa.ext c1) (by simp) (by decide) (by kernel_rfl) (fun h2 ab av' hx x => sis9 ⟨kr.ext c1, hs', hx⟩ s9 hi x)
 rwa [told_sis] at hc
def wZADD : ByteArray := ⟨#[90, 65, 68, 68]⟩
def wZSCORE : ByteArray := ⟨#[90, 83, 67, 79, 82, 69]⟩
theorem t_ZSCORE (x : Kp h kb sb mb [(key, zT n z)]) (hla : LaidN h) (ht : K5.TabH h) (hk : key.size ≤ 300) (hn : n.size ≤ 300) (hs : s.size ≤ 300) (hz : In64 z) (sa : SL encS h av [wZSCORE, key, n]) :
  CallsH Tryz.prog 17 [ptr kb, .int .i64 now, av] h (Ret (DoneR h kb sb mb (textR ⟨⟨Lib.itoa z⟩⟩) [(key, zT n z)])) := by
 have s9 : S9 [(key, zT n z)] := s9_one (t9_z hn hz)
 have hi300 := itoa_300 hz
 have h0 : s0.size ≤ 300 := by decide
 have h1 : sm1.size ≤ 300 := by decide
 have hA : ∀ a ∈ ([key, n] : List ByteArray), a.size < 281474976710656 := fun a ha => by
  simp only [List.mem_cons, List.not_mem_nil, or_false] at ha
  rcases ha with rfl | rfl <;> omega
 refine done9 (E := []) x (fun h1 c1 => ?_) rfl (by simp) (fun x hx => (nomatch hx))
 obtain ⟨c, m, kr, hs', hi⟩ := x
 have hc := do9_calls (now := now) (w := wZSCORE) (kr.ext c1) (sa.ext c1) (by simp) (by decide) (by kernel_rfl) (fun h2 ab av' hx x => zscore9 ⟨kr.ext c1, hs', hx⟩ s9 hi (hla.ext c1) (tab9 ht c1) x)
 rwa [told_zscore] at hc
def wRPUSH : ByteArray := ⟨#[82, 80, 85, 83, 72]⟩
theorem t_RPUSH (x : Kp h kb sb mb []) (hla : LaidN h) (ht : K5.TabH h) (hk : key.size ≤ 300) (hn : n.size ≤ 300) (hs : s.size ≤ 300) (hz : In64 z) (sa : SL encS h av [wRPUSH, key, s, n]) :
  CallsH Tryz.prog 17 [ptr kb, .int .i64 now, av] h (Ret (DoneR h kb sb mb (numR 2) [(key, lT [s, n])])) := by
 have s9 : S9 [] := fun p hp => (nomatch hp)
 have hi300 := itoa_300 hz
 have h0 : s0.size ≤ 300 := by decide
 have h1 : sm1.size ≤ 300 := by decide
 have hA : ∀ a ∈ ([key, s, n] : List ByteArray), a.size < 281474976710656 := fun a ha => by
  simp only [List.mem_cons, List.not_mem_nil, or_false] at ha
  rcases ha with rfl | rfl | rfl <;> omega
 refine done9 x (fun h1 c1 => ?_) (told_lall hk hn hs) (by simp) (fun x hx => (nomatch hx))
 obtain ⟨c, m, kr, hs', hi⟩ := x
 have hc := do9_calls (now := now) (w := wRPUSH) (kr.ext c1) (sa.ext c1) (by simp) (by decide) (by kernel_rfl) (fun h2 ab av' hx x => rpush9 ⟨kr.ext c1, hs', hx⟩ s9 hA x)
 rwa [told_rpush hk hn hs] at hc
def wLINDEX : ByteArray := ⟨#[76, 73, 78, 68, 69, 88]⟩
theorem t_LINDEX (x : Kp h kb sb mb [(key, lT [s, n])]) (hla : LaidN h) (ht : K5.TabH h) (hk : key.size ≤ 300) (hn : n.size ≤ 300) (hs : s.size ≤ 300) (hz : In64 z) (sa : SL encS h av [wLINDEX, key, s0]) :
  CallsH Tryz.prog 17 [ptr kb, .int .i64 now, av] h (Ret (DoneR h kb sb mb (textR s) [(key, lT [s, n])])) := by
 have s9 : S9 [(key, lT [s, n])] := s9_one (t9_l (by simp) (fun x hx => by simp at hx; rcases hx with rfl | rfl <;> assumption))
 have hi300 := itoa_300 hz
 have h0 : s0.size ≤ 300 := by decide
 have h1 : sm1.size ≤ 300 := by decide
 have hA : ∀ a ∈ ([key, s0] : List ByteArray), a.size < 281474976710656 := fun a ha => by
  simp only [List.mem_cons, List.not_mem_nil, or_false] at ha
  rcases ha with rfl | rfl <;> omega
 refine done9 (E := []) x (fun h1 c1 => ?_) rfl (by simp) (fun x hx => (nomatch hx))
 obtain ⟨c, m, kr, hs', hi⟩ := x
 have hc := do9_calls (now := now) (w := wLINDEX) (kr.ext c1) (sa.ext c1) (by simp) (by decide) (by kernel_rfl) (fun h2 ab av' hx x => lindex9 ⟨kr.ext c1, hs', hx⟩ s9 (hla.ext c1) hA x)
 rwa [told_lindex] at hc
def wRPOP : ByteArray := ⟨#[82, 80, 79, 80]⟩
theorem t_RPOP (x : Kp h kb sb mb [(key, lT [s, n])]) (hla : LaidN h) (ht : K5.TabH h) (hk : key.size ≤ 300) (hn : n.size ≤ 300) (hs : s.size ≤ 300) (hz : In64 z) (sa : SL encS h av [wRPOP, key]) :
  CallsH Tryz.prog 17 [ptr kb, .int .i64 now, av] h (Ret (DoneR h kb sb mb (textR n) [(key, lT [s])])) := by
 have s9 : S9 [(key, lT [s, n])] := s9_one (t9_l (by simp) (fun x hx => by simp at hx; rcases hx with rfl | rfl <;> assumption))
 have hi300 := itoa_300 hz
 have h0 : s0.size ≤ 300 := by decide
 have h1 : sm1.size ≤ 300 := by decide
 have hA : ∀ a ∈ ([key] : List ByteArray), a.size < 281474976710656 := fun a ha => by
  simp only [List.mem_cons, List.not_mem_nil, or_false] at ha
  rcases ha with rfl <;> omega
 refine done9 x (fun h1 c1 => ?_) (told_pall hk) (by simp) (fun x hx => (nomatch hx))
 obtain ⟨c, m, kr, hs', hi⟩ := x
 have hc := do9_calls (now := now) (w := wRPOP) (kr.ext c1) (sa.ext c1) (by simp) (by decide) (by kernel_rfl) (fun h2 ab av' hx x => rpop9 ⟨kr.ext c1, hs', hx⟩ s9 x)
 rwa [told_rpop] at hc
def wLRANGE : ByteArray := ⟨#[76, 82, 65, 78, 71, 69]⟩
theorem t_LRANGE (x : Kp h kb sb mb [(key, lT [s])]) (hla : LaidN h) (ht : K5.TabH h) (hk : key.size ≤ 300) (hn : n.size ≤ 300) (hs : s.size ≤ 300) (hz : In64 z) (sa : SL encS h av [wLRANGE, key, s0, sm1]) :
  CallsH Tryz.prog 17 [ptr kb, .int .i64 now, av] h (Ret (DoneR h kb sb mb (listR [s]) [(key, lT [s])])) := by
 have s9 : S9 [(key, lT [s])] := s9_one (t9_l (by simp) (fun x hx => by simp at hx; rw [hx]; assumption))
 have hi300 := itoa_300 hz
 have h0 : s0.size ≤ 300 := by decide
 have h1 : sm1.size ≤ 300 := by decide
 have hA : ∀ a ∈ ([key, s0, sm1] : List ByteArray), a.size < 281474976710656 := fun a ha => by
  simp only [List.mem_cons, List.not_mem_nil, or_false] at ha
  rcases ha with rfl | rfl | rfl <;> omega
 refine done9 (E := []) x (fun h1 c1 => ?_) rfl (by simp) (by simp [listR])
 obtain ⟨c, m, kr, hs', hi⟩ := x
 have hc := do9_calls (now := now) (w := wLRANGE) (kr.ext c1) (sa.ext c1) (by simp) (by decide) (by kernel_rfl) (fun h2 ab av' hx x => lrange9 ⟨kr.ext c1, hs', hx⟩ s9 (hla.ext c1) hA x)
 rwa [told_lrange] at hc
theorem t_ZADDF (x : Kp h kb sb mb []) (hla : LaidN h) (ht : K5.TabH h) (hk : key.size ≤ 300) (hn : n.size ≤ 300) (hz : In64 z) (sa : SL encS h av [wZADD, key, ⟨⟨Lib.itoa z⟩⟩, n]) :
  CallsH Tryz.prog 17 [ptr kb, .int .i64 now, av] h (Ret fun r h' => DoneR h kb sb mb (numR 1) [(key, zT n z)] r h' ∧ ∀ T h2, Chg T h' h2 → (∀ b ∈ T, b < h.size ∧ b ≠ kb ∧ b ≠ sb ∧ b ≠ mb) → Kp h2 kb sb mb [(key, zT n z)]) := by
 have s9 : S9 [] := fun p hp => (nomatch hp)
 have hi : InS [] := fun p hp => (nomatch hp)
 have hi300 := itoa_300 hz
 have hA : ∀ a ∈ ([key, ⟨⟨Lib.itoa z⟩⟩, n] : List ByteArray), a.size < 281474976710656 := fun a ha => by
  simp only [List.mem_cons, List.not_mem_nil, or_false] at ha
  rcases ha with rfl | rfl | rfl <;> omega
 obtain ⟨c, kr⟩ := x.empty
 have hs' : Sorted [] [] := ⟨List.Pairwise.nil, by simp⟩
 refine (done9F (q := numR 1) kr hs' hi (fun h1 c1 => ?_) (told_zall (z := z) hk hn) (by simp) (fun x hx => (nomatch hx))).mono fun en h' he => ?_
 ·have hc := do9_calls (now := now) (w := wZADD) (kr.ext c1) (sa.ext c1) (by simp) (by decide) (by kernel_rfl) (fun h2 ab av' hx x => zadd9 ⟨kr.ext c1, hs', hx⟩ s9 hi (hla.ext c1) (tab9 ht c1) hA x)
  rwa [told_zadd (num_itoa9 hz) hk hn] at hc
 ·cases en with
  |returned v =>
   obtain ⟨ra, rn, rc, h1, h2, ⟨c', m', ⟨h3, hf⟩, h4, h5⟩, h6⟩ := he
   refine ⟨⟨ra, rn, rc, h1, h2, ⟨c', m', h3, h4, h5⟩, h6⟩, fun T h7 c7 hT => ⟨c', m', kr_far9 h3 c7 (fun hb => (hT _ hb).2.1 rfl) (fun hb => (hT _ hb).2.2.1 rfl) (fun hb => (hT _ hb).2.2.2 rfl) (fun i hi => ?_), h4, h5⟩⟩
   rcases hf i hi with hf | hf
   ·cases hf
   ·exact ⟨fun hb => by have := (hT _ hb).1; have := hf.1; omega, fun v hv b hb hb2 => by have := (hT _ hb2).1; have := hf.2 v hv b hb; omega⟩
  |panicked ch => exact he.elim
  |outgrown => exact he.elim
end
end Go.Proofs.YtjnijlnmbjjgpaaGreatDoor
namespace Go.Proofs.YtjnijlnmbjjgpaaGreatDoor
open Go Go.Sx C
theorem known9_ret {h : Heap} : CallsH Tryz.prog 13 [] h (Ret fun r h' => r = .bool true ∧ Chg [] h h') := by
 refine f13_calls (by simp) ?_
 refine call_ret New_calls ?_
 rintro _ h1 ⟨kb, sb, mb, rfl, ks, hm, _, _, _, c1⟩
 have kr : KR h1 kb sb mb 0 [] := ⟨ks, hm, by simp, by simp, by simp, by simp, by simp, by simp⟩
 have hs : Sorted [] [] := ⟨List.Pairwise.nil, by simp⟩
 intro b2 h2 g2
 have sa : SL encS h2 (.slice (some ⟨b2, 0, none⟩) 3 3) [⟨#[115, 97, 100, 100]⟩, ⟨#[97]⟩, ⟨#[109]⟩] := by
  refine ⟨_, 3, rfl, Nat.le_refl _, ?_⟩
  exact cells_blk g2.blk
 have s9 : S9 [] := fun p hp => (nomatch hp)
 have hin : InS [] := fun p hp => (nomatch hp)
 refine call_ret (do9_calls (now := 0) (kr.ext g2.chg) sa (by simp) (by decide) (by kernel_rfl) fun h3 ab av' hx x => sadd9 ⟨kr.ext g2.chg, hs, hx⟩ s9 hin (fun s hs => ?_) x) ?_
 ·simp at hs
  rcases hs with rfl | rfl <;> decide
 rintro r h3 ⟨c3, hr⟩
 have e : cSadd [] 0 [⟨#[97]⟩, ⟨#[109]⟩] = .ok (rep 3 1 noText, [addE ⟨#[97]⟩ ⟨#[109]⟩]) := by kernel_rfl
 rw [e] at hr
 obtain ⟨vq, lv, rfl, ⟨ra, rn, rc, rfl, sl, fr⟩, hsl, hfr⟩ := hr
 obtain ⟨la, lc, rfl, _⟩ := hsl.form
 obtain ⟨lb, lo, rfl⟩ := hsl.addr (by simp)
 intro b9 h4 g4
 have w := (St.start h3).new g4
 refine w.st1 0 rfl rfl rfl rfl fun h5 w => ?_
 have hcs := (hsl.ext w.chg).cells encD_len (i := 0) (x := addE ⟨#[97]⟩ ⟨#[109]⟩) rfl
 refine w.ld1 0 rfl rfl ?_
 refine Ai rfl (Ai (fun _ => ?_) (fun hne => absurd rfl hne))
 refine w.ld1 0 rfl rfl ?_
 refine Ai rfl (Ai (fun _ => ?_) (fun hne => absurd rfl hne))
 refine Ai rfl (Ai (fun _ => ?_) (fun hne => absurd rfl hne))
 refine Ai (by decide) (Ai (by simp) (Ei _ (Ai (by simpa using hcs 0 _ rfl) ?_)))
 refine Ai rfl (Ai (fun _ => ?_) (fun hne => absurd rfl hne))
 refine Ai (by decide) (Ai (by simp) (Ei _ (Ai (by simpa using hcs 2 _ rfl) ?_)))
 refine Ai (fun _ => ?_) (fun hne => absurd rfl hne)
 exact ⟨rfl, ((c1.nil g2.chg).nil c3).nil w.chg⟩
theorem kn9 {h h2 : Heap} {K : Value → Heap → Prop} {Qp : List PanicEntry → Heap → Prop} (c2 : Chg [] h h2) (hK : ∀ h', Chg [] h h' → K (.bool true) h') : CallsH Tryz.prog 13 [] h2 (after K Qp) :=
 call_ret known9_ret fun v h' hv => by rw [hv.1]; exact hK h' (c2.nil hv.2)
theorem large9_calls {h : Heap} {vs : List Value} {t : Thing} (x : TH h vs t) (f : Fits t) (s : Sized t) :
  CallsH Tryz.prog 30 [.agg ⟨vs⟩] h (Ret fun r h' => (∃ b, r = .bool b ∧ (b = false → Small t)) ∧ Chg [] h h') := by
 have fp := f.p; have fl := f.l; have fr := f.r
 refine f30_calls (by simp) ?_
 intro b1 h1 g1
 have B1 : Blk h1 b1 vs := g1.blk
 have hc := g1.chg
 obtain ⟨pv, lv, rv, rfl, hp, hl, hr⟩ := x.ext hc
 obtain ⟨pa, pc, rfl, _⟩ := hp.form
 obtain ⟨la, lc, rfl, _⟩ := hl.form
 obtain ⟨ra, rc, rfl, _⟩ := hr.form
 have yes : Ret (fun r h' => (∃ b, r = .bool b ∧ (b = false → Small t)) ∧ Chg [] h h') (.returned (retV [Value.bool true])) h1 := ⟨⟨true, rfl, fun h => by cases h⟩, hc⟩
 refine Ei _ (Ai (cell_blk B1 rfl) ?_)
 refine Ei _ (Ai (cell_blk B1 rfl) ?_)
 refine Ai rfl (Ai (fun _ => yes) (fun n1 => ?_))
 refine Ei _ (Ai (cell_blk B1 rfl) ?_)
 refine Ai rfl (Ai (fun _ => yes) (fun n2 => ?_))
 refine Ei _ (Ai (cell_blk B1 rfl) ?_)
 refine Ai rfl (Ai (fun _ => yes) (fun n3 => ?_))
 refine Ai rfl (Ai (fun _ => yes) (fun n4 => ?_))
 have ht := s.text
 -- the pairs
 refine loop_intro (fun i : Nat × Int => [(1, .pointer (some ⟨b1, 0, none⟩)), (3, .int .i64 i.2), (4, .int .i64 i.1)]) (fun i h' => i.1 ≤ t.pairs.length ∧ h' = h1 ∧ 0 ≤ i.2 ∧ i.2 ≤ 2000 ∧ ∀ x ∈ t.pairs.take i.1, x.name.size ≤ 2000 ∧ x.text.size ≤ 2000) (fun i => t.pairs.length - i.1) (0, t.text.size)
  ⟨rfl, rfl, rfl, trivial⟩ ⟨Nat.zero_le _, rfl, by simp only; omega, by simp only; omega, by simp⟩ ?_
 rintro ⟨k, n⟩ h3 ⟨hk, h32, hn0, hn1, hps⟩
 have h32 := h32.symm
 subst h32
 simp only at hk hn0 hn1 hps
 refine Ei _ (Ai (cell_blk B1 rfl) ?_)
 refine Ai rfl (Ai (fun hlt => ?_) (fun hlt => ?_))
 ·have hkk : k < t.pairs.length := by omega
  obtain ⟨b3, o, rfl⟩ := hp.addr (by omega)
  have hcs := hp.cells encP_len (i := k) (x := t.pairs[k]) (by simp [hkk])
  obtain ⟨z1, z2⟩ := s.ps t.pairs[k] (List.getElem_mem hkk)
  refine Ei _ (Ai (cell_blk B1 rfl) ?_)
  refine Ai (by omega) (Ai (by omega) (Ei _ (Ai (hcs 0 _ rfl) ?_)))
  refine Ai rfl (fun y hy => ?_)
  have hy := add_in hy (by omega) (by omega)
  refine Ei _ (Ai (cell_blk B1 rfl) ?_)
  refine Ai (by omega) (Ai (by omega) (Ei _ (Ai (hcs 1 _ rfl) ?_)))
  refine Ai rfl (fun w hw => ?_)
  have hw := add_in hw (by omega) (by omega)
  refine Ai rfl (Ai (fun _ => yes) (fun n5 => ?_))
  refine Ai rfl (fun z hz => ?_)
  have hz := add_in hz (by omega) (by omega)
  subst hz
  refine Ai rfl (Ei (k + 1, w) (Ai ?_ (Ai ?_ ?_)))
  ·exact ⟨rfl, rfl, rfl, trivial⟩
  ·refine ⟨by simp only; omega, rfl, by simp only; omega, by simp only; omega, fun q hq => ?_⟩
   simp only at hq
   rw [take_snoc t.pairs k hkk] at hq
   rcases List.mem_append.1 hq with hq | hq
   ·exact hps q hq
   ·have : q = t.pairs[k] := by simpa using hq
    rw [this]; omega
  ·simp only; omega
 have hkl : k = t.pairs.length := by omega
 rw [hkl, List.take_length] at hps
 clear hlt hkl hk
 -- the list
 refine loop_intro (fun i : Nat × Int => [(1, .pointer (some ⟨b1, 0, none⟩)), (3, .int .i64 i.2), (5, .int .i64 i.1)]) (fun i h' => i.1 ≤ t.list.length ∧ h' = h1 ∧ 0 ≤ i.2 ∧ i.2 ≤ 2000 ∧ ∀ x ∈ t.list.take i.1, x.size ≤ 2000) (fun i => t.list.length - i.1) (0, n)
  ⟨rfl, rfl, rfl, trivial⟩ ⟨Nat.zero_le _, rfl, by simp only; omega, by simp only; omega, by simp⟩ ?_
 clear hn0 hn1
 rintro ⟨k, n⟩ h3 ⟨hk, h32, hn0, hn1, hls⟩
 have h32 := h32.symm
 subst h32
 simp only at hk hn0 hn1 hls
 refine Ei _ (Ai (cell_blk B1 rfl) ?_)
 refine Ai rfl (Ai (fun hlt => ?_) (fun hlt => ?_))
 ·have hkk : k < t.list.length := by omega
  obtain ⟨b3, o, rfl⟩ := hl.addr (by omega)
  have hcs := hl.cells encS_len (i := k) (x := t.list[k]) (by simp [hkk])
  have z1 := s.ls t.list[k] (List.getElem_mem hkk)
  refine Ei _ (Ai (cell_blk B1 rfl) ?_)
  refine Ai (by omega) (Ai (by omega) (Ei _ (Ai (hcs 0 _ rfl) ?_)))
  refine Ai rfl (fun w hw => ?_)
  have hw := add_in hw (by omega) (by omega)
  refine Ai rfl (Ai (fun _ => yes) (fun n5 => ?_))
  refine Ai rfl (fun z hz => ?_)
  have hz := add_in hz (by omega) (by omega)
  subst hz
  refine Ai rfl (Ei (k + 1, w) (Ai ?_ (Ai ?_ ?_)))
  ·exact ⟨rfl, rfl, rfl, trivial⟩
  ·refine ⟨by simp only; omega, rfl, by simp only; omega, by simp only; omega, fun q hq => ?_⟩
   simp only at hq
   rw [take_snoc t.list k hkk] at hq
   rcases List.mem_append.1 hq with hq | hq
   ·exact hls q hq
   ·have : q = t.list[k] := by simpa using hq
    rw [this]; omega
  ·simp only; omega
 have hkl : k = t.list.length := by omega
 rw [hkl, List.take_length] at hls
 clear hlt hkl hk
 -- the ranks
 refine loop_intro (fun i : Nat × Int => [(1, .pointer (some ⟨b1, 0, none⟩)), (3, .int .i64 i.2), (6, .int .i64 i.1)]) (fun i h' => i.1 ≤ t.ranks.length ∧ h' = h1 ∧ 0 ≤ i.2 ∧ i.2 ≤ 2000 ∧ ∀ x ∈ t.ranks.take i.1, x.name.size ≤ 2000) (fun i => t.ranks.length - i.1) (0, n)
  ⟨rfl, rfl, rfl, trivial⟩ ⟨Nat.zero_le _, rfl, by simp only; omega, by simp only; omega, by simp⟩ ?_
 clear hn0 hn1
 rintro ⟨k, n⟩ h3 ⟨hk, h32, hn0, hn1, hrs⟩
 have h32 := h32.symm
 subst h32
 simp only at hk hn0 hn1 hrs
 refine Ei _ (Ai (cell_blk B1 rfl) ?_)
 refine Ai rfl (Ai (fun hlt => ?_) (fun hlt => ?_))
 ·have hkk : k < t.ranks.length := by omega
  obtain ⟨b3, o, rfl⟩ := hr.addr (by omega)
  have hcs := hr.cells encR_len (i := k) (x := t.ranks[k]) (by simp [hkk])
  have z1 := s.rs t.ranks[k] (List.getElem_mem hkk)
  refine Ei _ (Ai (cell_blk B1 rfl) ?_)
  refine Ai (by omega) (Ai (by omega) (Ei _ (Ai (hcs 0 _ rfl) ?_)))
  refine Ai rfl (fun w hw => ?_)
  have hw := add_in hw (by omega) (by omega)
  refine Ai rfl (Ai (fun _ => yes) (fun n5 => ?_))
  refine Ai rfl (fun z hz => ?_)
  have hz := add_in hz (by omega) (by omega)
  subst hz
  refine Ai rfl (Ei (k + 1, w) (Ai ?_ (Ai ?_ ?_)))
  ·exact ⟨rfl, rfl, rfl, trivial⟩
  ·refine ⟨by simp only; omega, rfl, by simp only; omega, by simp only; omega, fun q hq => ?_⟩
   simp only at hq
   rw [take_snoc t.ranks k hkk] at hq
   rcases List.mem_append.1 hq with hq | hq
   ·exact hrs q hq
   ·have : q = t.ranks[k] := by simpa using hq
    rw [this]; omega
  ·simp only; omega
 have hkl : k = t.ranks.length := by omega
 rw [hkl, List.take_length] at hrs
 exact ⟨⟨false, rfl, fun _ => ⟨by omega, by omega, by omega, by omega, hps, hls, hrs⟩⟩, hc⟩
theorem vast9_calls {h : Heap} {v u : Value} {l : List RX} {d : List ByteArray} (hv : SL encX h v l) (hu : SL encS h u d) (g : GX h l) (f : XFit l) (fd : SFit d) :
  CallsH Tryz.prog 12 [v, u] h (Ret fun r h' => (∃ b, r = .bool b ∧ (b = false → NVast l ∧ SSmall d)) ∧ Chg [] h h') := by
 have fl := f.len
 have fdl := fd.len
 obtain ⟨a, c, rfl, hlc⟩ := hv.form
 obtain ⟨a', c', rfl, hlc'⟩ := hu.form
 have yes : ∀ h', Chg [] h h' → Ret (fun r h' => (∃ b, r = .bool b ∧ (b = false → NVast l ∧ SSmall d)) ∧ Chg [] h h') (.returned (retV [Value.bool true])) h' := fun h' hc => ⟨⟨true, rfl, fun h => by cases h⟩, hc⟩
 refine f12_calls (by simp) ?_
 refine Ai rfl (Ai (fun _ => yes h (Chg.refl h)) (fun n1 => ?_))
 refine Ai rfl (Ai (fun _ => yes h (Chg.refl h)) (fun n2 => ?_))
 refine loop_intro (fun k : Nat => [(0, .slice a l.length c), (1, .slice a' d.length c'), (5, .int .i64 k)]) (fun k h' => k ≤ l.length ∧ Chg [] h h' ∧ ∀ x ∈ l.take k, x.key.size ≤ 300 ∧ Small x.thing) (fun k => l.length - k) 0
  ⟨rfl, rfl, rfl, trivial⟩ ⟨Nat.zero_le _, Chg.refl h, by simp⟩ ?_
 rintro k h1 ⟨hk, hc1, hall⟩
 have hv1 := hv.ext hc1
 refine Ai rfl (Ai (fun ht => ?_) (fun ht => ?_))
 ·have hlt : k < l.length := by omega
  obtain ⟨b, o, rfl⟩ := hv1.addr (by omega)
  have hcs := hv1.cells encX_len (i := k) (x := l[k]) (by simp [hlt])
  have hmem : l[k] ∈ l := List.getElem_mem hlt
  have hkz := f.keys _ hmem
  refine Ai (by omega) (Ai (by omega) (Ei _ (Ai (hcs 0 _ rfl) ?_)))
  refine Ai rfl (Ai (fun _ => yes h1 hc1) (fun n3 => ?_))
  refine Ai (by omega) (Ai (by omega) (Ei l[k].vs (Ai l[k].len (Ai (cells_vs hcs) ?_))))
  refine call_ret (large9_calls ((g.ext hc1) _ hmem) (f.fits _ hmem) (f.sized _ hmem)) ?_
  rintro _ h2 ⟨⟨b2, rfl, hsm⟩, hc2⟩
  cases b2 with
  |true => exact yes h2 (hc1.nil hc2)
  |false =>
   refine Ai rfl (fun z hz => ?_)
   have hz := add_in hz (by omega) (by omega)
   subst hz
   refine Ai rfl (Ei (k + 1) (Ai ?_ (Ai ?_ ?_)))
   ·exact ⟨rfl, rfl, rfl, trivial⟩
   ·refine ⟨by omega, hc1.nil hc2, fun x hx => ?_⟩
    rw [take_snoc l k hlt, List.mem_append, List.mem_singleton] at hx
    rcases hx with hx | rfl
    ·exact hall x hx
    ·exact ⟨by omega, hsm rfl⟩
   ·omega
 have hkl : k = l.length := by omega
 rw [hkl, List.take_length] at hall
 clear hkl ht hk hv1
 have nv : NVast l := ⟨by omega, fun x hx => (hall x hx).1, fun x hx => (hall x hx).2⟩
 refine loop_intro (fun k : Nat => [(1, .slice a' d.length c'), (6, .int .i64 k)]) (fun k h' => k ≤ d.length ∧ Chg [] h h' ∧ ∀ e ∈ d.take k, e.size ≤ 300) (fun k => d.length - k) 0
  ⟨rfl, rfl, trivial⟩ ⟨Nat.zero_le _, hc1, by simp⟩ ?_
 clear k hc1
 rintro k h1 ⟨hk, hc1, hall⟩
 have hu1 := hu.ext hc1
 refine Ai rfl (Ai (fun ht => ?_) (fun ht => ?_))
 ·have hlt : k < d.length := by omega
  obtain ⟨b, o, rfl⟩ := hu1.addr (by omega)
  have hcs := hu1.cells encS_len (i := k) (x := d[k]) (by simp [hlt])
  have z1 := fd.each _ (List.getElem_mem hlt)
  refine Ai (by omega) (Ai (by omega) (Ei _ (Ai (hcs 0 _ rfl) ?_)))
  refine Ai rfl (Ai (fun _ => yes h1 hc1) (fun n3 => ?_))
  refine Ai rfl (fun z hz => ?_)
  have hz := add_in hz (by omega) (by omega)
  subst hz
  refine Ai rfl (Ei (k + 1) (Ai ?_ (Ai ?_ ?_)))
  ·exact ⟨rfl, rfl, trivial⟩
  ·refine ⟨by omega, hc1, fun x hx => ?_⟩
   rw [take_snoc d k hlt, List.mem_append, List.mem_singleton] at hx
   rcases hx with hx | rfl
   ·exact hall x hx
   ·omega
  ·omega
 have hkl : k = d.length := by omega
 rw [hkl, List.take_length] at hall
 exact ⟨⟨false, rfl, fun _ => ⟨nv, ⟨by omega, hall⟩⟩⟩, hc1⟩
theorem chk_ld9 {P : Program} {σ : Env} {h : Heap} {x d b k : Nat} {v : Value} (hσ : σ x = some (.pointer (some ⟨b, k, none⟩))) (hc : Sx.cell h b k = some v) (hd : σ d = some v) : cls (SOp.ld1 (.tmp x)) ≤ 1 ∧ chkOp P σ h ⟨some d, none, .ld1 (.tmp x)⟩ := by
 refine ⟨Nat.le_of_ble_eq_true rfl, ?_⟩
 unfold chkOp sopr
 simp only [sop, ev, hσ]
 refine ⟨v, hc, trivial, ?_⟩
 funext i
 show (bif Nat.beq i d then some v else σ i) = σ i
 cases hi : Nat.beq i d with
 |false => rfl
 |true => rw [Nat.eq_of_beq_eq_true hi, hd]; rfl
theorem all1 {α : Type} {p : α → Prop} {a : α} (h : p a) : ∀ x ∈ [a], p x := fun x hx => by rw [List.mem_singleton.1 hx]; exact h
theorem all3 {α : Type} {p : α → Prop} {a b c : α} (h1 : p a) (h2 : p b) (h3 : p c) : ∀ x ∈ [a, b, c], p x := fun x hx => by
 rcases List.mem_cons.1 hx with rfl | hx
 ·exact h1
 rcases List.mem_cons.1 hx with rfl | hx
 ·exact h2
 rw [List.mem_singleton.1 hx]; exact h3
abbrev repC (q : Rep) (a : Option Addr) (n c : Nat) : List Value := [.int .i64 q.k, .int .i64 q.i, .string q.s, .slice a n c]
set_option maxHeartbeats 2000000 in
theorem told_tail {h h1 : Heap} {b1 b7 b9 b11 b13 b15 sz sl zb mz lb ml ms mh : Nat} {key n s : ByteArray} {now z : Int} {q7 q11 q15 : Rep} {a7 a9 a11 a13 a15 : Option Addr} {n7 n9 n11 n13 n15 c7 c9 c11 c13 c15 : Nat}
  (hla : LaidN h) (ht : K5.TabH h) (hk : key.size ≤ 300) (hn : n.size ≤ 300) (hs : s.size ≤ 300) (hz : In64 z) (kz : Kp h1 zb sz mz [(key, zT n z)]) (kl : Kp h1 lb sl ml []) (hne : ml ≠ mz)
  (w : St [] h h1 [.b b15 (repC q15 a15 n15 c15), .b b13 (repC (numR 1) a13 n13 c13), .b b11 (repC q11 a11 n11 c11), .b b9 (repC (textR s) a9 n9 c9), .b b7 (repC q7 a7 n7 c7), ltE ml, ltE mz, ltE ms, ltE mh, .b b1 [.string key, .string n, .string s, .int .i64 z, .int .i64 now]]) :
  swp Tryz.prog (.seq (.ops f8r9) (.seq (.ops f8r10) (.seq (.ops f8r11) (.seq (.ops f8r12) (.seq (.ops f8r13) (.seq (.ops f8r14) .ret))))))
   (retQ [.t 2] (Ret fun r h' => r = .bool true ∧ Chg [] h h')) (mk [(1, ptr b1), (5, ptr zb), (6, ptr lb), (8, .bool true), (9, ptr b9), (12, .bool true), (13, ptr b13), (16, .bool true)]) [] h1 := by
 -- ZSCORE
 refine w.ld1 9 rfl rfl ?_
 refine w.ld1 9 rfl rfl ?_
 refine w.ld1 9 rfl rfl ?_
 intro b101 h101 g101
 refine call_ret (t_ZSCORE (kz.ext g101.chg) (hla.ext (w.chg.nil g101.chg)) (tab9 ht (w.chg.nil g101.chg)) hk hn hs hz (show SL encS h101 (.slice (some ⟨b101, 0, none⟩) 3 3) [wZSCORE, key, n] from ⟨_, 3, rfl, Nat.le_refl _, by exact cells_blk g101.blk⟩)) ?_
 rintro _ h102 ⟨ra102, rn102, rc102, rfl, sl102, kz', c102⟩
 have kl := (kl.ext g101.chg).other (kz.ext g101.chg) c102 (by omega)
 have w := w.ext g101.chg
 have w := w.set (e' := ltE mz) 6 rfl c102 (fun b hb => .inl hb) (Nat.lt_of_lt_of_le (show mz < _ from w.get 6 rfl) c102.size) (fun b hb => .inl hb)
 intro b103 h103 g103
 have w := w.new g103
 refine w.st2 0 rfl rfl rfl rfl fun h104 w d104 => ?_
 have i103 := g103.id
 have e104 : Chg [] h102 h104 := g103.chg.fresh d104 (by simp; omega)
 have kz := kz'.ext e104
 have kl := kl.ext e104
 -- RPUSH
 refine w.ld1 10 rfl rfl ?_
 refine w.ld1 10 rfl rfl ?_
 refine w.ld1 10 rfl rfl ?_
 refine w.ld1 10 rfl rfl ?_
 intro b105 h105 g105
 refine call_ret (t_RPUSH (kl.ext g105.chg) (hla.ext (w.chg.nil g105.chg)) (tab9 ht (w.chg.nil g105.chg)) hk hn hs hz (show SL encS h105 (.slice (some ⟨b105, 0, none⟩) 4 4) [wRPUSH, key, s, n] from ⟨_, 4, rfl, Nat.le_refl _, by exact cells_blk g105.blk⟩)) ?_
 rintro _ h106 ⟨ra106, rn106, rc106, rfl, sl106, kl', c106⟩
 have w := w.ext g105.chg
 have w := w.set (e' := ltE ml) 6 rfl c106 (fun b hb => .inl hb) (Nat.lt_of_lt_of_le (show ml < _ from w.get 6 rfl) c106.size) (fun b hb => .inl hb)
 intro b107 h107 g107
 have w := w.new g107
 refine w.st2 0 rfl rfl rfl rfl fun h108 w d108 => ?_
 have i107 := g107.id
 have e108 : Chg [] h106 h108 := g107.chg.fresh d108 (by simp; omega)
 have kl := kl'.ext e108
 -- LINDEX
 refine w.ld1 11 rfl rfl ?_
 refine w.ld1 11 rfl rfl ?_
 intro b109 h109 g109
 refine call_ret (t_LINDEX (kl.ext g109.chg) (hla.ext (w.chg.nil g109.chg)) (tab9 ht (w.chg.nil g109.chg)) hk hn hs hz (show SL encS h109 (.slice (some ⟨b109, 0, none⟩) 3 3) [wLINDEX, key, s0] from ⟨_, 3, rfl, Nat.le_refl _, by exact cells_blk g109.blk⟩)) ?_
 rintro _ h110 ⟨ra110, rn110, rc110, rfl, sl110, kl', c110⟩
 have w := w.ext g109.chg
 have w := w.set (e' := ltE ml) 7 rfl c110 (fun b hb => .inl hb) (Nat.lt_of_lt_of_le (show ml < _ from w.get 7 rfl) c110.size) (fun b hb => .inl hb)
 intro b111 h111 g111
 have w := w.new g111
 refine w.st2 0 rfl rfl rfl rfl fun h112 w d112 => ?_
 have i111 := g111.id
 have e112 : Chg [] h110 h112 := g111.chg.fresh d112 (by simp; omega)
 have kl := kl'.ext e112
 -- RPOP
 refine w.ld1 12 rfl rfl ?_
 refine w.ld1 12 rfl rfl ?_
 intro b113 h113 g113
 refine call_ret (t_RPOP (kl.ext g113.chg) (hla.ext (w.chg.nil g113.chg)) (tab9 ht (w.chg.nil g113.chg)) hk hn hs hz (show SL encS h113 (.slice (some ⟨b113, 0, none⟩) 2 2) [wRPOP, key] from ⟨_, 2, rfl, Nat.le_refl _, by exact cells_blk g113.blk⟩)) ?_
 rintro _ h114 ⟨ra114, rn114, rc114, rfl, sl114, kl', c114⟩
 have w := w.ext g113.chg
 have w := w.set (e' := ltE ml) 8 rfl c114 (fun b hb => .inl hb) (Nat.lt_of_lt_of_le (show ml < _ from w.get 8 rfl) c114.size) (fun b hb => .inl hb)
 intro b115 h115 g115
 have w := w.new g115
 refine w.st2 0 rfl rfl rfl rfl fun h116 w d116 => ?_
 have i115 := g115.id
 have e116 : Chg [] h114 h116 := g115.chg.fresh d116 (by simp; omega)
 have kl := kl'.ext e116
 -- LRANGE
 refine w.ld1 13 rfl rfl ?_
 refine w.ld1 13 rfl rfl ?_
 intro b117 h117 g117
 refine call_ret (t_LRANGE (kl.ext g117.chg) (hla.ext (w.chg.nil g117.chg)) (tab9 ht (w.chg.nil g117.chg)) hk hn hs hz (show SL encS h117 (.slice (some ⟨b117, 0, none⟩) 4 4) [wLRANGE, key, s0, sm1] from ⟨_, 4, rfl, Nat.le_refl _, by exact cells_blk g117.blk⟩)) ?_
 rintro _ h118 ⟨ra118, rn118, rc118, rfl, sl118, kl', c118⟩
 have w := w.ext g117.chg
 have w := w.set (e' := ltE ml) 9 rfl c118 (fun b hb => .inl hb) (Nat.lt_of_lt_of_le (show ml < _ from w.get 9 rfl) c118.size) (fun b hb => .inl hb)
 intro b119 h119 g119
 have w := w.new g119
 refine w.st2 0 rfl rfl rfl rfl fun h120 w d120 => ?_
 have i119 := g119.id
 have e120 : Chg [] h118 h120 := g119.chg.fresh d120 (by simp; omega)
 have kl := kl'.ext e120
 -- is all as it was put?
 have sr := sl118.ext e120
 obtain ⟨a, cc, he, _⟩ := sr.form
 cases he
 obtain ⟨ab, ao, rfl⟩ := sr.addr (by simp [listR])
 have hcs := sr.cells encQ_len (i := 0) (x := (4, 0, s)) rfl
 refine w.ld1 8 rfl rfl ?_
 refine w.ld1 14 rfl rfl ?_
 refine Ai (fun _ => ?_) (fun hne => absurd rfl hne)
 refine w.ld1 8 rfl rfl ?_
 refine Ai rfl (Ai (fun _ => ?_) (fun hne => absurd rfl hne))
 refine w.ld1 6 rfl rfl ?_
 refine Ai rfl (Ai (fun _ => ?_) (fun hne => absurd rfl hne))
 refine w.ld1 4 rfl rfl ?_
 refine w.ld1 14 rfl rfl ?_
 refine callq_ret (digits9_calls (hla.ext w.chg) hz) ?_
 rintro _ hq ⟨rfl, cq⟩
 refine Ai cq.ext ?_
 have w := w.ext cq
 have hcs := (sr.ext cq).cells encQ_len (i := 0) (x := (4, 0, s)) rfl
 refine Ai (fun _ => ?_) (fun hne => absurd rfl hne)
 refine w.ld1 2 rfl rfl ?_
 refine w.ld1 14 rfl rfl ?_
 refine Ai (fun _ => ?_) (fun hne => absurd rfl hne)
 refine w.ld1 1 rfl rfl ?_
 refine w.ld1 14 rfl rfl ?_
 refine Ai (fun _ => ?_) (fun hne => absurd rfl hne)
 refine w.ld1 0 rfl rfl ?_
 refine Ai rfl (Ai (fun _ => ?_) (fun hne => absurd rfl hne))
 refine w.ld1 0 rfl rfl ?_
 refine Ai (by decide) (Ai (by simp [listR]) (Ei _ (Ai (by simpa using hcs 2 _ rfl) ?_)))
 refine w.ld1 14 rfl rfl ?_
 refine Ai (fun _ => ?_) (fun hne => absurd rfl hne)
 refine callq_ret known9_ret ?_
 rintro _ hk2 ⟨rfl, ck⟩
 refine Ai ck.ext ?_
 exact Ai rfl (w.chg.nil ck)
set_option maxHeartbeats 2000000 in
theorem CollsTold_calls {h : Heap} {key n s : ByteArray} {now z : Int} (hk9 : key.size < 4611686018427387904) (hn9 : n.size < 4611686018427387904) (hs9 : s.size < 4611686018427387904) (hz : In64 z) (hla : LaidN h) (ht : K5.TabH h) :
  CallsH Tryz.prog 8 [.agg ⟨[.string key, .string n, .string s, .int .i64 z, .int .i64 now]⟩] h (Ret fun r h' => r = .bool true ∧ Chg [] h h') := by
 refine f8_calls (by simp) ?_
 intro b1 h1 g1
 have w : St [] h h1 [.b b1 [.string key, .string n, .string s, .int .i64 z, .int .i64 now]] := (St.start h).new g1
 refine w.ld1 0 rfl rfl ?_
 refine w.ld1 0 rfl rfl ?_
 refine w.ld1 0 rfl rfl ?_
 intro b2 h2 g2
 have hu : SL encS h2 (.slice (some ⟨b2, 0, none⟩) 3 3) [key, n, s] := ⟨_, 3, rfl, Nat.le_refl _, by exact cells_blk g2.blk⟩
 have C2 := g1.chg.nil g2.chg
 refine call_ret (vast9_calls SL.nil hu (fun x hx => (nomatch hx)) ⟨by decide, fun x hx => (nomatch hx), fun x hx => (nomatch hx), fun x hx => (nomatch hx)⟩ ⟨by simp, fun e he => by simp at he; rcases he with rfl | rfl | rfl <;> assumption⟩) ?_
 rintro _ h3 ⟨⟨b, rfl, hb⟩, c3⟩
 have C3 := C2.nil c3
 have w := (w.ext g2.chg).ext c3
 cases b with
 |true => exact kn9 C3 fun h' c => Ai rfl c
 |false =>
  obtain ⟨_, sm⟩ := hb rfl
  have hk := sm.each key (by simp)
  have hn := sm.each n (by simp)
  have hs := sm.each s (by simp)
  have kn : ∀ {h' : Heap} {kb sb mb : Nat}, KS h' kb sb mb → MapB h' mb [] 0 → Kp h' kb sb mb [] := fun ks hm => ⟨0, [], ⟨ks, hm, by simp, by simp, by simp, by simp, by simp, by simp⟩, ⟨List.Pairwise.nil, by simp⟩, fun p hp => (nomatch hp)⟩
  refine call_ret New_calls ?_
  rintro _ h121 ⟨hb, sh, mh, rfl, ksh, hmh, imh, _, _, c121⟩
  have kh := kn ksh hmh
  have w := w.add (e := ltE mh) c121 kh.lt (fun b hb => by simp [ltE, En.fp] at hb; omega)
  have uh := kh.lt
  refine call_ret New_calls ?_
  rintro _ h122 ⟨sb, ss, ms, rfl, kss, hms, ims, _, _, c122⟩
  have ks := kn kss hms
  have lh := kh.lt
  have kh := kh.ext c122
  have w := w.add (e := ltE ms) c122 ks.lt (fun b hb => by simp [ltE, En.fp] at hb; omega)
  have us := ks.lt
  refine call_ret New_calls ?_
  rintro _ h123 ⟨zb, sz, mz, rfl, ksz, hmz, imz, _, _, c123⟩
  have kz := kn ksz hmz
  have lh := kh.lt
  have kh := kh.ext c123
  have ls := ks.lt
  have ks := ks.ext c123
  have w := w.add (e := ltE mz) c123 kz.lt (fun b hb => by simp [ltE, En.fp] at hb; omega)
  have uz := kz.lt
  refine call_ret New_calls ?_
  rintro _ h124 ⟨lb, sl, ml, rfl, ksl, hml, iml, _, _, c124⟩
  have kl := kn ksl hml
  have lh := kh.lt
  have kh := kh.ext c124
  have ls := ks.lt
  have ks := ks.ext c124
  have lz := kz.lt
  have kz := kz.ext c124
  have w := w.add (e := ltE ml) c124 kl.lt (fun b hb => by simp [ltE, En.fp] at hb; omega)
  have ul := kl.lt
  -- HSET
  refine w.ld1 4 rfl rfl ?_
  refine w.ld1 4 rfl rfl ?_
  refine w.ld1 4 rfl rfl ?_
  refine w.ld1 4 rfl rfl ?_
  intro b125 h125 g125
  refine call_ret (t_HSET (kh.ext g125.chg) (hla.ext (w.chg.nil g125.chg)) (tab9 ht (w.chg.nil g125.chg)) hk hn hs hz (show SL encS h125 (.slice (some ⟨b125, 0, none⟩) 4 4) [wHSET, key, n, s] from ⟨_, 4, rfl, Nat.le_refl _, by exact cells_blk g125.blk⟩)) ?_
  rintro _ h126 ⟨ra126, rn126, rc126, rfl, sl126, kh', c126⟩
  have ks := (ks.ext g125.chg).other (kh.ext g125.chg) c126 (by omega)
  have kz := (kz.ext g125.chg).other (kh.ext g125.chg) c126 (by omega)
  have kl := (kl.ext g125.chg).other (kh.ext g125.chg) c126 (by omega)
  have w := w.ext g125.chg
  have w := w.set (e' := ltE mh) 3 rfl c126 (fun b hb => .inl hb) (Nat.lt_of_lt_of_le (show mh < _ from w.get 3 rfl) c126.size) (fun b hb => .inl hb)
  intro b127 h127 g127
  have w := w.new g127
  refine w.st2 0 rfl rfl rfl rfl fun h128 w d128 => ?_
  have i127 := g127.id
  have e128 : Chg [] h126 h128 := g127.chg.fresh d128 (by simp; omega)
  have kh := kh'.ext e128
  have ks := ks.ext e128
  have kz := kz.ext e128
  have kl := kl.ext e128
  -- HGET
  refine w.ld1 5 rfl rfl ?_
  refine w.ld1 5 rfl rfl ?_
  refine w.ld1 5 rfl rfl ?_
  intro b129 h129 g129
  refine call_ret (t_HGET (kh.ext g129.chg) (hla.ext (w.chg.nil g129.chg)) (tab9 ht (w.chg.nil g129.chg)) hk hn hs hz (show SL encS h129 (.slice (some ⟨b129, 0, none⟩) 3 3) [wHGET, key, n] from ⟨_, 3, rfl, Nat.le_refl _, by exact cells_blk g129.blk⟩)) ?_
  rintro _ h130 ⟨ra130, rn130, rc130, rfl, sl130, kh', c130⟩
  have ks := (ks.ext g129.chg).other (kh.ext g129.chg) c130 (by omega)
  have kz := (kz.ext g129.chg).other (kh.ext g129.chg) c130 (by omega)
  have kl := (kl.ext g129.chg).other (kh.ext g129.chg) c130 (by omega)
  have w := w.ext g129.chg
  have w := w.set (e' := ltE mh) 4 rfl c130 (fun b hb => .inl hb) (Nat.lt_of_lt_of_le (show mh < _ from w.get 4 rfl) c130.size) (fun b hb => .inl hb)
  intro b131 h131 g131
  have w := w.new g131
  refine w.st2 0 rfl rfl rfl rfl fun h132 w d132 => ?_
  have i131 := g131.id
  have e132 : Chg [] h130 h132 := g131.chg.fresh d132 (by simp; omega)
  have kh := kh'.ext e132
  have ks := ks.ext e132
  have kz := kz.ext e132
  have kl := kl.ext e132
  -- SADD
  refine w.ld1 6 rfl rfl ?_
  refine w.ld1 6 rfl rfl ?_
  refine w.ld1 6 rfl rfl ?_
  intro b133 h133 g133
  refine call_ret (t_SADD (ks.ext g133.chg) (hla.ext (w.chg.nil g133.chg)) (tab9 ht (w.chg.nil g133.chg)) hk hn hs hz (show SL encS h133 (.slice (some ⟨b133, 0, none⟩) 3 3) [wSADD, key, n] from ⟨_, 3, rfl, Nat.le_refl _, by exact cells_blk g133.blk⟩)) ?_
  rintro _ h134 ⟨ra134, rn134, rc134, rfl, sl134, ks', c134⟩
  have kz := (kz.ext g133.chg).other (ks.ext g133.chg) c134 (by omega)
  have kl := (kl.ext g133.chg).other (ks.ext g133.chg) c134 (by omega)
  have w := w.ext g133.chg
  have w := w.set (e' := ltE ms) 4 rfl c134 (fun b hb => .inl hb) (Nat.lt_of_lt_of_le (show ms < _ from w.get 4 rfl) c134.size) (fun b hb => .inl hb)
  intro b135 h135 g135
  have w := w.new g135
  refine w.st2 0 rfl rfl rfl rfl fun h136 w d136 => ?_
  have i135 := g135.id
  have e136 : Chg [] h134 h136 := g135.chg.fresh d136 (by simp; omega)
  have ks := ks'.ext e136
  have kz := kz.ext e136
  have kl := kl.ext e136
  -- SISMEMBER
  refine w.ld1 7 rfl rfl ?_
  refine w.ld1 7 rfl rfl ?_
  refine w.ld1 7 rfl rfl ?_
  intro b137 h137 g137
  refine call_ret (t_SISMEMBER (ks.ext g137.chg) (hla.ext (w.chg.nil g137.chg)) (tab9 ht (w.chg.nil g137.chg)) hk hn hs hz (show SL encS h137 (.slice (some ⟨b137, 0, none⟩) 3 3) [wSISMEMBER, key, n] from ⟨_, 3, rfl, Nat.le_refl _, by exact cells_blk g137.blk⟩)) ?_
  rintro _ h138 ⟨ra138, rn138, rc138, rfl, sl138, ks', c138⟩
  have kz := (kz.ext g137.chg).other (ks.ext g137.chg) c138 (by omega)
  have kl := (kl.ext g137.chg).other (ks.ext g137.chg) c138 (by omega)
  have w := w.ext g137.chg
  have w := w.set (e' := ltE ms) 5 rfl c138 (fun b hb => .inl hb) (Nat.lt_of_lt_of_le (show ms < _ from w.get 5 rfl) c138.size) (fun b hb => .inl hb)
  intro b139 h139 g139
  have w := w.new g139
  refine w.st2 0 rfl rfl rfl rfl fun h140 w d140 => ?_
  have i139 := g139.id
  have e140 : Chg [] h138 h140 := g139.chg.fresh d140 (by simp; omega)
  have ks := ks'.ext e140
  have kz := kz.ext e140
  have kl := kl.ext e140
  -- ZADD
  refine w.ld1 8 rfl rfl ?_
  refine w.ld1 8 rfl rfl ?_
  refine w.ld1 8 rfl rfl ?_
  refine w.ld1 8 rfl rfl ?_
  refine Ai ?_ ?_
  ·refine call_ret (digits9_calls (hla.ext w.chg) hz) ?_
   rintro _ hd ⟨rfl, cd⟩
   have w := w.ext cd
   have kz := kz.ext (cd)
   have kl := kl.ext (cd)
   refine Ai (all3 (chk_ld9 rfl (w.ld 8 rfl rfl) rfl) (chk_ld9 rfl (w.ld 8 rfl rfl) rfl) (chk_ld9 rfl (w.ld 8 rfl rfl) rfl)) ?_
   refine Ai ?_ ?_
   ·intro ba ha ga
    have sa : SL encS ha (.slice (some ⟨ba, 0, none⟩) 4 4) [wZADD, key, ⟨⟨Lib.itoa z⟩⟩, n] := ⟨_, 4, rfl, Nat.le_refl _, by exact cells_blk ga.blk⟩
    have w := w.ext ga.chg
    have kz := kz.ext (ga.chg)
    have kl := kl.ext (ga.chg)
    refine Ai (all1 (chk_ld9 rfl (w.ld 8 rfl rfl) rfl)) ?_
    refine Ai ?_ ?_
    ·have zz := w.chg.size
     have lz := kz.lt
     refine call_ret (t_ZADDF kz (hla.ext w.chg) (tab9 ht w.chg) hk hn hz sa) ?_
     rintro _ hb ⟨⟨ra, rn, rc, rfl, sl, kz', cb⟩, far⟩
     have kl := kl.other kz cb (by omega)
     have w := w.set (e' := ltE mz) 5 rfl cb (fun b hb => .inl hb) (Nat.lt_of_lt_of_le (show mz < _ from w.get 5 rfl) cb.size) (fun b hb => .inl hb)
     intro bn hn5 gn
     have w := w.new gn
     refine w.st2 0 rfl rfl rfl rfl fun hf w df => ?_
     have in5 := gn.id
     have ef : Chg [] hb hf := gn.chg.fresh df (by simp; omega)
     have kz := kz'.ext ef
     have kl := kl.ext ef
     exact cut_at [(1, ptr b1), (5, ptr zb), (6, ptr lb), (8, .bool true), (9, ptr b131), (12, .bool true), (13, ptr b139), (16, .bool true)] ⟨rfl, rfl, rfl, rfl, rfl, rfl, rfl, rfl, trivial⟩ (told_tail hla ht hk hn hs hz kz kl (by omega) w)
    ·intro bn hn5 gn
     have zl := kz.lt3
     have yl := kl.lt3
     have in5 := gn.id
     have zn := gn.size
     have w := w.new gn
     have kz := kz.ext gn.chg
     have kl := kl.ext gn.chg
     refine Ai (all1 (chk_ld9 rfl (w.ld 9 rfl rfl) rfl)) ?_
     have zz := w.chg.size
     have lz := kz.lt
     refine call_ret (t_ZADDF kz (hla.ext w.chg) (tab9 ht w.chg) hk hn hz (sa.ext gn.chg)) ?_
     rintro _ hb ⟨⟨ra, rn, rc, rfl, sl, kz', cb⟩, far⟩
     have kl := kl.other kz cb (by omega)
     have w := w.set (e' := ltE mz) 6 rfl cb (fun b hb => .inl hb) (Nat.lt_of_lt_of_le (show mz < _ from w.get 6 rfl) cb.size) (fun b hb => .inl hb)
     refine w.st2 0 rfl rfl rfl rfl fun hf w df => ?_
     have kz := far _ hf df (fun b hb => by rw [List.mem_singleton.1 hb]; omega)
     have kl := kl.far df (by simp; omega) (by simp; omega) (by simp; omega)
     exact cut_at [(1, ptr b1), (5, ptr zb), (6, ptr lb), (8, .bool true), (9, ptr b131), (12, .bool true), (13, ptr b139), (16, .bool true)] ⟨rfl, rfl, rfl, rfl, rfl, rfl, rfl, rfl, trivial⟩ (told_tail hla ht hk hn hs hz kz kl (by omega) w)
   ·intro bn hn5 gn
    have zl := kz.lt3
    have yl := kl.lt3
    have in5 := gn.id
    have zn := gn.size
    have w := w.new gn
    have kz := kz.ext gn.chg
    have kl := kl.ext gn.chg
    refine Ai (all3 (chk_ld9 rfl (w.ld 9 rfl rfl) rfl) (chk_ld9 rfl (w.ld 9 rfl rfl) rfl) (chk_ld9 rfl (w.ld 9 rfl rfl) rfl)) ?_
    intro ba ha ga
    have sa : SL encS ha (.slice (some ⟨ba, 0, none⟩) 4 4) [wZADD, key, ⟨⟨Lib.itoa z⟩⟩, n] := ⟨_, 4, rfl, Nat.le_refl _, by exact cells_blk ga.blk⟩
    have w := w.ext ga.chg
    have kz := kz.ext (ga.chg)
    have kl := kl.ext (ga.chg)
    have zg := ga.size
    refine Ai (all1 (chk_ld9 rfl (w.ld 9 rfl rfl) rfl)) ?_
    have zz := w.chg.size
    have lz := kz.lt
    refine call_ret (t_ZADDF kz (hla.ext w.chg) (tab9 ht w.chg) hk hn hz sa) ?_
    rintro _ hb ⟨⟨ra, rn, rc, rfl, sl, kz', cb⟩, far⟩
    have kl := kl.other kz cb (by omega)
    have w := w.set (e' := ltE mz) 6 rfl cb (fun b hb => .inl hb) (Nat.lt_of_lt_of_le (show mz < _ from w.get 6 rfl) cb.size) (fun b hb => .inl hb)
    refine w.st2 0 rfl rfl rfl rfl fun hf w df => ?_
    have kz := far _ hf df (fun b hb => by rw [List.mem_singleton.1 hb]; omega)
    have kl := kl.far df (by simp; omega) (by simp; omega) (by simp; omega)
    exact cut_at [(1, ptr b1), (5, ptr zb), (6, ptr lb), (8, .bool true), (9, ptr b131), (12, .bool true), (13, ptr b139), (16, .bool true)] ⟨rfl, rfl, rfl, rfl, rfl, rfl, rfl, rfl, trivial⟩ (told_tail hla ht hk hn hs hz kz kl (by omega) w)
  ·intro bn hn5 gn
   have zl := kz.lt3
   have yl := kl.lt3
   have in5 := gn.id
   have zn := gn.size
   have w := w.new gn
   have kz := kz.ext gn.chg
   have kl := kl.ext gn.chg
   refine Ai (all3 (chk_ld9 rfl (w.ld 9 rfl rfl) rfl) (chk_ld9 rfl (w.ld 9 rfl rfl) rfl) (chk_ld9 rfl (w.ld 9 rfl rfl) rfl)) ?_
   refine call_ret (digits9_calls (hla.ext w.chg) hz) ?_
   rintro _ hd ⟨rfl, cd⟩
   have w := w.ext cd
   have kz := kz.ext (cd)
   have kl := kl.ext (cd)
   have zd := cd.size
   refine Ai (all3 (chk_ld9 rfl (w.ld 9 rfl rfl) rfl) (chk_ld9 rfl (w.ld 9 rfl rfl) rfl) (chk_ld9 rfl (w.ld 9 rfl rfl) rfl)) ?_
   intro ba ha ga
   have sa : SL encS ha (.slice (some ⟨ba, 0, none⟩) 4 4) [wZADD, key, ⟨⟨Lib.itoa z⟩⟩, n] := ⟨_, 4, rfl, Nat.le_refl _, by exact cells_blk ga.blk⟩
   have w := w.ext ga.chg
   have kz := kz.ext (ga.chg)
   have kl := kl.ext (ga.chg)
   have zg := ga.size
   refine Ai (all1 (chk_ld9 rfl (w.ld 9 rfl rfl) rfl)) ?_
   have zz := w.chg.size
   have lz := kz.lt
   refine call_ret (t_ZADDF kz (hla.ext w.chg) (tab9 ht w.chg) hk hn hz sa) ?_
   rintro _ hb ⟨⟨ra, rn, rc, rfl, sl, kz', cb⟩, far⟩
   have kl := kl.other kz cb (by omega)
   have w := w.set (e' := ltE mz) 6 rfl cb (fun b hb => .inl hb) (Nat.lt_of_lt_of_le (show mz < _ from w.get 6 rfl) cb.size) (fun b hb => .inl hb)
   refine w.st2 0 rfl rfl rfl rfl fun hf w df => ?_
   have kz := far _ hf df (fun b hb => by rw [List.mem_singleton.1 hb]; omega)
   have kl := kl.far df (by simp; omega) (by simp; omega) (by simp; omega)
   exact cut_at [(1, ptr b1), (5, ptr zb), (6, ptr lb), (8, .bool true), (9, ptr b131), (12, .bool true), (13, ptr b139), (16, .bool true)] ⟨rfl, rfl, rfl, rfl, rfl, rfl, rfl, rfl, trivial⟩ (told_tail hla ht hk hn hs hz kz kl (by omega) w)
end Go.Proofs.YtjnijlnmbjjgpaaGreatDoor
namespace Go.Proofs.YtjnijlnmbjjgpaaGreatDoor
open Go Go.Sx Go.ChangeShapes Go.WideShapes Go.ChangeAt Go.RowKit
theorem own : ownKnob Tryz.prog.godebug = none := by kernel_rfl
theorem laidOut : laidOutB Tryz.prog = true := by kernel_rfl
def tab32 : List Int := [0, 1, 28, 2, 29, 14, 24, 3, 30, 22, 20, 15, 25, 17, 4, 8, 31, 27, 13, 23, 21, 19, 16, 7, 26, 12, 18, 6, 11, 5, 10, 9]
def tab64 : List Int := [0, 1, 56, 2, 57, 49, 28, 3, 61, 58, 42, 50, 38, 29, 17, 4, 62, 47, 59, 36, 45, 43, 51, 22, 53, 39, 33, 30, 24, 18, 12, 5, 63, 55, 48, 27, 60, 41, 37, 16, 46, 35, 44, 21, 52, 32, 23, 11, 54, 26, 40, 15, 34, 20, 31, 10, 25, 14, 19, 9, 13, 8, 7, 6]
def pow10 : List Int := [1, 10, 100, 1000, 10000, 100000, 1000000, 10000000, 100000000, 1000000000, 10000000000, 100000000000, 1000000000000, 10000000000000, 100000000000000, 1000000000000000, 10000000000000000, 100000000000000000, 1000000000000000000, 10000000000000000000]
def wordRange : ByteArray := ⟨#[118, 97, 108, 117, 101, 32, 111, 117, 116, 32, 111, 102, 32, 114, 97, 110, 103, 101]⟩
def wordSyntax : ByteArray := ⟨#[105, 110, 118, 97, 108, 105, 100, 32, 115, 121, 110, 116, 97, 120]⟩
def laid5 : List (String × DataW Unit) := [("math/bits.deBruijn32tab", Rows.laid_math_bits_deBruijn32tab), ("math/bits.deBruijn64tab", Rows.laid_math_bits_deBruijn64tab), ("internal/strconv.uint64pow10", Rows.laid_internal_strconv_uint64pow10), ("strconv.ErrRange", Rows.laid_strconv_ErrRange), ("strconv.ErrSyntax", Rows.laid_strconv_ErrSyntax)]
def putTab (vs : Array Value) : Obj → Obj
 |.cells _ t frozen => .cells vs t frozen
 |o => o
noncomputable def bare (os : Os) : World := World.holding Tryz.prog os ⟨#[], #[], []⟩
noncomputable def laidWorld (os : Os) : World :=
 { bare os with heap := ((((((bare os).heap.modify 2 (putTab (tab32.map fun z => Value.int .u8 z).toArray)).modify 3 (putTab (tab64.map fun z => Value.int .u8 z).toArray)).modify 0 (putTab (pow10.map fun z => Value.int .u64 z).toArray)).modify 5
  (putTab #[.iface 348 (.pointer (some ⟨(bare os).heap.size, 0, none⟩))])).modify 4 (putTab #[.iface 348 (.pointer (some ⟨(bare os).heap.size + 1, 0, none⟩))])) ++
  #[.cells #[.string wordRange] 350 (0, 0), .cells #[.string wordSyntax] 350 (0, 0)] }
theorem laid_met (os : Os) (args : Array Value) : laidMet Tryz.prog laid5 ((laidWorld os).forCall (fun _ _ => 0) ⟨#[], args, []⟩).memory :=
 laidMet_of_run' 8 (by kernel_rfl) (by kernel_rfl)
section
variable {H : Type} {enc : TypeId × Value → H} {W : World} {base n : Nat} {sp : Nat → Bool} {held : Bool} {cs : List Value} {x : DataW H × List MemPlace}
end
end Go.Proofs.YtjnijlnmbjjgpaaGreatDoor
namespace Go.Proofs.YtjnijlnmbjjgpaaGreatDoor
open Go Go.Sx Go.ChangeShapes Go.WideShapes Go.ChangeAt Go.RowKit
theorem trod_iface {H : Type} {enc : TypeId × Value → H} {P : Program} {w : World} {base n : Nat} {sp : Nat → Bool} {held : Bool} {t : TypeId} {cs : List Value} {x : DataW H × List MemPlace}
  (ht : (match P.underlying t with | some (.interface _) => true | _ => false) = true) (h : DataW.trod enc P w base sp held n t cs = some x) : ∃ v, cs = [v] ∧ IfaceV v := by
 obtain ⟨ms, ht⟩ : ∃ ms, P.underlying t = some (.interface ms) := by
  split at ht
  ·rename_i ms h1; exact ⟨ms, h1⟩
  ·cases ht
 cases n with
 |zero => simp [DataW.trod] at h
 |succ n =>
  simp only [DataW.trod, ht] at h
  split at h <;> first | exact ⟨_, rfl, .inl rfl⟩ | exact ⟨_, rfl, .inr ⟨_, _, rfl⟩⟩ | (exfalso; simp_all; done)
theorem errV {W : World} {n : String} {gi : Nat} {g : Nat} {t : TypeId} {cs : Array Value} {fuel : Nat} {d : DataW Unit} {p : List MemPlace} (hgi : Tryz.prog.globalNamed n = some gi) (hti : (Tryz.prog.globals[gi]?).map (·.type) = some 244)
  (hg : Tryz.prog.globalNamed n = some g) (ht : (Tryz.prog.globals[g]?).map (·.type) = some t) (hv : W.var? Tryz.prog n = some cs) (h : DataW.trod (fun _ => ()) Tryz.prog W 0 (fun _ => true) false fuel t cs.toList = some (d, p)) :
  ∃ v, cell W.heap gi 0 = some v ∧ IfaceV v := by
 obtain rfl := Option.some.inj (hgi.symm.trans hg)
 obtain rfl := Option.some.inj (hti.symm.trans ht)
 obtain ⟨v, e, hi⟩ := trod_iface (by kernel_rfl) h
 refine ⟨v, ?_, hi⟩
 unfold World.var? at hv
 rw [hgi] at hv
 have hv : (match W.heap[gi]? with | some (.cells cs _ _) => some cs | _ => none) = some cs := hv
 unfold cell
 split at hv
 ·rename_i h1
  injection hv with hv
  subst hv
  rw [h1]
  show (_ : Array Value)[0]? = _
  rw [← Array.getElem?_toList, e]; rfl
 ·cases hv
theorem laidN_of {W : World} (h : laidMetH Tryz.prog laid5 W) : LaidN W.heap := by
 have h : laidMet Tryz.prog laid5 W := h
 obtain ⟨ps, ⟨_, _, _, _, _, _, _, _, _, _, ⟨_, _, _, _, _, _, _, _, _, _, ⟨g, t, cs, fuel, p, q, hg, ht, hv, htr, ⟨g2, t2, cs2, fuel2, p2, q2, hg2, ht2, hv2, htr2, ⟨g3, t3, cs3, fuel3, p3, q3, hg3, ht3, hv3, htr3, _, _⟩, _⟩, _⟩, _⟩, _⟩, _⟩ := h
 refine ⟨?_, errV (by kernel_rfl) (by kernel_rfl) hg3 ht3 hv3 htr3, errV (by kernel_rfl) (by kernel_rfl) hg2 ht2 hv2 htr2⟩
 have hgi : Tryz.prog.globalNamed "internal/strconv.uint64pow10" = some 0 := by kernel_rfl
 have hti : (Tryz.prog.globals[0]?).map (·.type) = some 234 := by kernel_rfl
 obtain rfl := Option.some.inj (hgi.symm.trans hg)
 obtain rfl := Option.some.inj (hti.symm.trans ht)
 have hc := Lib.cells_of_tab (k := .u64) (zs := Lib.pow10Tab) (n := 20) (e := 183) (by kernel_rfl) (by kernel_rfl) (by kernel_rfl) (by kernel_rfl) htr
 unfold World.var? at hv
 rw [hgi] at hv
 have hv : (match W.heap[(0 : Nat)]? with | some (.cells cs _ _) => some cs | _ => none) = some cs := hv
 split at hv
 ·rename_i h1
  injection hv with hv
  subst hv
  exact ⟨_, _, by rw [h1, ← hc]⟩
 ·cases hv
section
variable {H : Type} {enc : TypeId × Value → H} {W : World} {base n : Nat} {sp : Nat → Bool} {held : Bool}
end
end Go.Proofs.YtjnijlnmbjjgpaaGreatDoor
namespace Go.Proofs.YtjnijlnmbjjgpaaGreatDoor
open Go Go.Sx Go.ChangeShapes Go.WideShapes Go.ChangeAt Go.RowKit
theorem g64 : Tryz.prog.globalNamed "math/bits.deBruijn64tab" = some 3 := by kernel_rfl
theorem tab64_in : ∀ i < 64, 0 ≤ tab64.getD i 0 ∧ tab64.getD i 0 ≤ 255 := by decide
theorem laid_tail {P : Program} {W : World} {x : String × DataW Unit} {l : List (String × DataW Unit)} (h : laidMet P (x :: l) W) : ∃ ps, DataW.LaidVars P W l ps := by
 obtain ⟨ps, ⟨g', t', cs, fuel, p, q, hg', ht', hvar, hd, hr, _⟩, _⟩ := h
 exact ⟨q, hr⟩
theorem tabH_of {W : World} (h : laidMetH Tryz.prog laid5 W) : K5.TabH W.heap := by
 have h' : laidMet Tryz.prog laid5 W := h
 obtain ⟨ps, g', t', cs, fuel, p, q, hg', ht', hvar, hd, _, _⟩ := laid_tail h'
 obtain rfl := Option.some.inj (g64.symm.trans hg')
 have hti : (Tryz.prog.globals[3]?).map (·.type) = some 318 := by kernel_rfl
 obtain rfl := Option.some.inj (hti.symm.trans ht')
 have hcs := Lib.cells_of_tab (k := .u8) (zs := tab64) (n := 64) (e := 5) (by kernel_rfl) (by kernel_rfl) (by kernel_rfl) (by kernel_rfl) hd
 intro i hi
 have hc := World.var?_cell g64 hvar i
 have h1 := tab64_in i hi
 refine ⟨tab64.getD i 0, h1.1, h1.2, ?_⟩
 rw [← world_cell, hc]
 have e1 : cs[i]? = cs.toList[i]? := by simp
 rw [e1, hcs]
 have hi' : i < tab64.length := hi
 simp [List.getD, hi']
end Go.Proofs.YtjnijlnmbjjgpaaGreatDoor
