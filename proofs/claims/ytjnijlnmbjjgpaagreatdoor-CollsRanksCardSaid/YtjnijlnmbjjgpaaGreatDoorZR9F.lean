/-
  Layer 9: the document's answer: HSET.
  Layer 9: the document's answer: Do, for the commands of hashes, sets and ranked sets. (Written by genre.py.)
  Layer 9: the document's bounds, the other names. (Written by genrd2.py.)
  Layer 9: the commands of hashes, by the program and by the document. (Written by genrp2.py.)
  Layer 9: the document's answer: the commands of sets. (Written by genrs.py.)
  Layer 9: the commands of sets but SINTER, by the program and by the document. (Written by genrp3.py.)
  Layer 9: the document's answer: the commands of ranked sets. (Written by genrz.py.)
  Layer 9: the document's answer: ZADD.
  Layer 9: the document's answer: ZRANGE, ZRANGEBYSCORE. (Written by genrz3.py.)
  Layer 9: the commands of ranked sets but ZADD, by the program and by the document. (Written by genrp4.py.)
  Layer 9: ZINCRBY and ZADD, by the program and by the document.
  Layer 9: ZADD, by the program and by the document.
  Layer 9: what is too much.
  Layer 9: known(), by a walk.
  Layer 9: the law of the commands of lists (taborlaw09.CollsList). (Written by genrq.py.)
  Layer 9: the law of the commands of ranked sets (taborlaw09.CollsRanks). (Written by genrq3.py.)
  The world of a witness: the tables and errors of strconv and math/bits as they are laid.
  Layer 7: things, entries and effects opened.
  Layer 8: strconv's laid variables, as the walks want them; arguments opened.
  Layer 9: the table of math/bits as it is laid.
-/
import Derived.Test.YtjnijlnmbjjgpaaGreatDoorCards
import Derived.Test.YtjnijlnmbjjgpaaGreatDoorTie
import Derived.Deep.DeepHandedRow
import Derived.ProofKit
import Derived.Test.YtjnijlnmbjjgpaaGreatDoorZR9E
namespace Go.Proofs.YtjnijlnmbjjgpaaGreatDoor
open Go Go.Sx C
def accG (S : Space) (key : ByteArray) (now : Int) (Es : List Eff) (j : Nat) : List Eff := if j = 0 then [] else dropsS S key now ++ Es.take j
theorem accG_next {S : Space} {key : ByteArray} {now : Int} {Es : List Eff} {e : Eff} {j : Nat} (hj : Es[j]? = some e) : preL S key now (accG S key now Es j) ++ [e] = accG S key now Es (j + 1) := by
 obtain ⟨hlt, he⟩ := List.getElem?_eq_some_iff.1 hj
 unfold accG preL
 rw [if_neg (by omega : ¬ j + 1 = 0), List.take_succ_eq_append_getElem hlt, he]
 cases j with
 |zero => simp
 |succ j =>
  have h1 : ¬ (j + 1 = 0) := by omega
  have h2 : ¬ ((dropsS S key now ++ Es.take (j + 1)).length = 0) := by rw [List.length_append, List.length_take]; omega
  rw [if_neg h1, if_neg h2, List.append_assoc]
theorem accG_len {S : Space} {key : ByteArray} {now : Int} {Es : List Eff} {j : Nat} (hl : Es.length ≤ 20) : (accG S key now Es j).length ≤ 100 := by
 unfold accG
 have := drops_len S key now
 split
 ·simp
 ·simp only [List.length_append, List.length_take]; omega
section
variable {h0 h h1 h' : Heap} {xb i : Nat} {now n m : Int} {kv av lv pv lw rv : Value} {k : List RX} {A l : List ByteArray} {L E : List Eff} {why key s u nm : ByteArray} {t : Thing} {M : List En} {T : List Nat} {res : Res}
end
end Go.Proofs.YtjnijlnmbjjgpaaGreatDoor
namespace Go.Proofs.YtjnijlnmbjjgpaaGreatDoor
open Go Go.Sx C
set_option maxHeartbeats 1000000 in
theorem rdoZ_calls {h : Heap} {kv av : Value} {k : List RX} {now lo hi wh : Int} {w N : ByteArray} {A : List ByteArray} {res : Res} (hsl : SL encX h kv k) (hgx : GX h k) (hup : UpX k) (hlen : k.length < 4611686018427387904) (hfit : KeysFit k)
  (hA : SL encS h av (w :: A)) (hal : A.length + 1 ≤ 20) (hzw : w.size ≤ 300) (hz : ∀ s ∈ A, s.size ≤ 300) (hN : up w = N) (hb : BoundR9 N lo hi 5 wh) (hlo : 1 ≤ lo) (hn1 : N ≠ qHSET) (hn2 : N ≠ qZADD) (hn3 : N ≠ qSINTER)
  (hout : ¬ (lo ≤ A.length ∧ (A.length : Int) ≤ hi) → res = .error wArgs)
  (hnum : lo ≤ A.length → (A.length : Int) ≤ hi → (∃ j, 1 ≤ j ∧ j < A.length ∧ need9 wh j ∧ (A[j]?.bind numOf) = none) → res = .error wNum)
  (hkd : lo ≤ A.length → (A.length : Int) ≤ hi → NumsOk wh A → ∀ key, A[0]? = some key → okK 5 (getS (k.map RX.pr) key now) = false → res = .error wType)
  (ht9 : ∀ key, T9 ((getS (k.map RX.pr) key now).getD zeroT))
  (hf : ∀ {h1 : Heap} {xb : Nat} {av' pv lw rv : Value} {key : ByteArray}, A[0]? = some key → lo ≤ A.length → (A.length : Int) ≤ hi → NumsOk wh A → okK 5 (getS (k.map RX.pr) key now) = true → RG9 h kv k av' A key ((getS (k.map RX.pr) key now).getD zeroT) pv lw rv →
   As h h1 (aT xb ((getS (k.map RX.pr) key now).getD zeroT) pv lw rv key kv now av' (.slice none 0 0) [] noText) →
   CallsH Tryz.prog 63 [ptr xb, .string N] h1 (Ret (Reply9 h h1 xb ((getS (k.map RX.pr) key now).getD zeroT) pv lw rv key kv now av' (.slice none 0 0) res))) :
  CallsH Tryz.prog 31 [kv, .int .i64 now, av] h (Ret (DoR h res)) := by
 obtain ⟨ka, kc, rfl, _⟩ := hsl.form
 obtain ⟨a, cc, rfl, hcc⟩ := hA.form
 obtain ⟨b0, o0, rfl⟩ := hA.addr (by simp)
 have hl : (w :: A).length ≤ 20 := hal
 refine f31_calls (by simp) ?_
 intro b6 h1 g1
 have w1 := (St.start h).new g1
 refine Ai rfl (Ai (fun h0 => absurd h0 (by simp; omega)) (fun _ => ?_))
 have hc0 := (hA.ext w1.chg).cells encS_len (i := 0) (x := w) (by simp)
 refine Ai (by decide) (Ai (by simp) (Ei _ (Ai (by simpa using hc0 0 _ rfl) ?_)))
 refine w1.callv (rword_calls (by omega)) fun h2 w2 => ?_
 rw [hN]
 refine callp (hb h2) ?_
 refine Ai (by decide) (Ai (by simp only [List.length_cons]; omega) (Ai (by omega) ?_))
 refine sl_slc (lo := 1) (hi := (w :: A).length) encS_len (hA.ext w2.chg) (by simp) (Nat.le_refl _) fun v1 hv1 => ?_
 have e1 : ((w :: A).drop 1).take ((w :: A).length - 1) = A := by simp
 rw [e1] at hv1
 obtain ⟨a1, cc1, rfl, hcc1⟩ := (hv1 h hA).form
 intro xb h5 g5
 have w5 := w2.new g5
 have z2 := w2.chg.size
 have i5 := g5.id
 have c : RC9 h (.slice ka k.length kc) k (.slice a1 A.length cc1) A := ⟨hsl, hgx, hup, hlen, hfit, fun h' hc => hv1 h' (hA.ext hc)⟩
 have nomem : xb ∉ vblk (.slice none 0 0) := fun hm => (nomatch (show xb ∈ ([] : List Nat) from hm))
 have w : St [] h h5 [aT xb zeroT (.slice none 0 0) (.slice none 0 0) (.slice none 0 0) noText (.slice ka k.length kc) now (.slice a1 A.length cc1) (.slice none 0 0) [] noText, .b b6 [.int .i64 0, .int .i64 0, .string ⟨#[]⟩, .slice none 0 0]] :=
  w5.set 0 rfl (Chg.refl _) (by simp) ⟨w5.get 0 rfl, OL.nil, nomem⟩ (fun b hb => by
   rcases List.mem_cons.1 hb with rfl | hb
   ·exact .inl (by simp [En.fp])
   ·exact (nomatch (show b ∈ ([] : List Nat) from hb)))
 refine call_ret (rmany9_calls c (w.as 0 rfl)) ?_
 rintro _ h6 (⟨m1, m2, rfl, _, o6⟩ | ⟨mn, rfl, _, o6⟩)
 rotate_left
 ·have w := w.own 0 rfl o6
  refine w.ldr9 0 rfl rfl ?_
  refine w.callv rFail9_calls fun h7 w => ?_
  refine w.st1 1 rfl rfl rfl rfl fun h8 w => ?_
  rw [hout mn]
  exact ⟨_, rfl, cells_blk (w.get 1 rfl), w.chg, rfl⟩
 have w := w.own 0 rfl o6
 refine Ai (fun he => absurd he hn1) (fun _ => ?_)
 refine Ai (fun he => absurd he hn2) (fun _ => ?_)
 refine call_ret (rnums9_calls c (w.as 0 rfl) (by omega) hz) ?_
 rintro _ h7 (⟨hall, rfl, _, o7⟩ | ⟨hbad, rfl, _, o7⟩)
 rotate_left
 ·have w := w.own 0 rfl o7
  refine w.ldr9 0 rfl rfl ?_
  refine w.callv rFail9_calls fun h8 w => ?_
  refine w.st1 1 rfl rfl rfl rfl fun h9 w => ?_
  rw [hnum m1 m2 hbad]
  exact ⟨_, rfl, cells_blk (w.get 1 rfl), w.chg, rfl⟩
 have w := w.own 0 rfl o7
 have hpos : 0 < A.length := by omega
 obtain ⟨key, hkey⟩ : ∃ key, A[0]? = some key := ⟨_, List.getElem?_eq_getElem hpos⟩
 have hks : key.size ≤ 300 := hz key (List.mem_of_getElem? hkey)
 obtain ⟨b1, o1, cc2, he1⟩ := c.argF hpos
 obtain ⟨rfl, _, rfl⟩ := Value.slice.inj he1
 refine w.ldr9 0 rfl rfl ?_
 refine c.ix (w.chg) 0 rfl hkey ?_
 refine w.stK9 0 rfl fun h8 w => ?_
 intro b17 h9 g9
 have w := w.new g9
 refine Ai (fun he => absurd he hn3) (fun _ => ?_)
 refine call_ret (rof9_calls (kd := 5) c (w.as 1 rfl) (by omega)) ?_
 rintro _ h10 ⟨pv, lw, rv, rfl, hth, _, o10⟩
 have w := w.own 1 rfl o10
 have l6 : b6 < h10.size := (show Blk h10 b6 _ from w.get 2 rfl).lt
 have l17 : b17 < h10.size := (show Blk h10 b17 _ from w.get 0 rfl).lt
 have fail : ∀ {h' : Heap} {why : ByteArray} {t' : Thing} {pv' lw' rv' lv' : Value} {key' : ByteArray} {E : List Eff} {r17 : List Value}, why ≠ noText → res = .error why → St [] h h' [.b b17 r17, aT xb t' pv' lw' rv' key' (.slice ka k.length kc) now (.slice (some ⟨b1, o1, none⟩) A.length cc1) lv' E why, .b b6 [.int .i64 0, .int .i64 0, .string ⟨#[]⟩, .slice none 0 0]] →
   swp Tryz.prog (.seq (.seq (.ops f31r28) (.cond (.tmp 130) (.seq (.ops f31r29) .ret) .skip)) (.seq (.two f31p30 f31r30 f31s30) .ret)) (retQ [.cn 6 4, .t 7, .t 8] (Ret (DoR h res))) (mk [(6, ptr b6), (15, ptr xb), (17, ptr b17)]) [] h' := by
  intro h' why t' pv' lw' rv' lv' key' E r17 hw hr w
  refine w.ldr9 1 rfl rfl ?_
  refine Ai (fun _ => ?_) (fun h9 => absurd (fun e => hw e) h9)
  refine w.ldr9 1 rfl rfl ?_
  refine w.callv rFail9_calls fun h10 w => ?_
  refine w.st1 2 rfl rfl rfl rfl fun h11 w => ?_
  rw [hr]
  exact ⟨_, rfl, cells_blk (w.get 2 rfl), w.chg, rfl⟩
 cases hok : okK 5 (getS (k.map RX.pr) key now) with
 |false =>
  rw [hok] at w
  exact cut_at [(6, ptr b6), (15, ptr xb), (17, ptr b17)] ⟨rfl, rfl, rfl, trivial⟩ (fail (why := wType) (by decide) (hkd m1 m2 hall key hkey hok) w)
 |true =>
  rw [hok] at w
  refine Ai rfl (Ai (fun he => absurd he (by decide)) (fun _ => ?_))
  refine Ai rfl (Ai (fun he => absurd he (by decide)) (fun _ => ?_))
  refine Ai rfl (Ai (fun he => absurd he (by decide)) (fun _ => ?_))
  refine Ai rfl (Ai (fun _ => ?_) (fun he => absurd rfl he))
  refine call_ret (hf hkey m1 m2 hall hok ⟨c, hth, ht9 key, hks, hz, by omega⟩ (w.as 1 rfl)) ?_
  rintro _ h11 ⟨q, lv', E, why, ⟨ra, rn, rc, rfl, sl, fr⟩, ⟨t', pv', lw', rv', key', _, o11⟩, hd⟩
  have w := w.own 1 rfl o11
  refine w.st2 0 rfl rfl rfl rfl fun h12 w k12 => ?_
  have sl12 : SL encQ h12 (.slice ra rn rc) q.l := sl.chg k12 (fun b hb => by have := fr b hb; simp; omega)
  rcases hd with ⟨rfl, hd⟩ | ⟨hne, hd⟩
  ·refine w.ldr9 1 rfl rfl ?_
   refine Ai (fun h9 => absurd rfl h9) (fun _ => ?_)
   obtain ⟨la, lc, rfl⟩ := w.rform9 1 rfl
   have fin : ∀ {h' : Heap}, St [] h h' [.b b17 [.int .i64 q.k, .int .i64 q.i, .string q.s, .slice ra rn rc], aT xb t' pv' lw' rv' key' (.slice ka k.length kc) now (.slice (some ⟨b1, o1, none⟩) A.length cc1) (.slice la E.length lc) E noText, .b b6 [.int .i64 q.k, .int .i64 q.i, .string q.s, .slice ra rn rc]] → Chg [b6] h12 h' →
     ∃ vs, vs.length = 4 ∧ Cells h' b6 0 vs ∧ DoR h res (.tuple ⟨[.agg ⟨vs⟩, .slice la E.length lc, .bool true]⟩) h' := fun w k => by
    rw [hd]
    refine ⟨_, rfl, cells_blk (w.get 2 rfl), w.chg, _, _, rfl, ⟨ra, rn, rc, rfl, sl12.chg k (fun b hb => by have := fr b hb; simp; omega), fun _ _ => Nat.zero_le _⟩, (w.get 1 rfl).2.1.sl, fun b hb => ?_⟩
    rcases (w.ents 1 _ rfl).2 b (List.mem_cons_of_mem _ hb) with h1 | h1
    ·cases h1
    ·exact h1
   refine w.ldw 0 rfl rfl ?_
   refine Ai ?_ ?_
   ·refine w.ldr9 1 rfl rfl ?_
    refine w.st2 2 rfl rfl rfl rfl fun h13 w k13 => ?_
    exact fin w k13
   ·refine w.st2 2 rfl rfl rfl rfl fun h13 w k13 => ?_
    refine w.ldr9 1 rfl rfl ?_
    exact fin w k13
  ·exact cut_at [(6, ptr b6), (15, ptr xb), (17, ptr b17)] ⟨rfl, rfl, rfl, trivial⟩ (fail hne hd w)
set_option maxHeartbeats 1000000 in
theorem rdoZp_calls {h : Heap} {kv av : Value} {k : List RX} {now lo hi wh : Int} {w N : ByteArray} {A : List ByteArray} {res : Res} (hsl : SL encX h kv k) (hgx : GX h k) (hup : UpX k) (hlen : k.length < 4611686018427387904) (hfit : KeysFit k)
  (hA : SL encS h av (w :: A)) (hal : A.length + 1 ≤ 20) (hzw : w.size ≤ 300) (hz : ∀ s ∈ A, s.size ≤ 300) (hN : up w = N) (hb : BoundR9 N lo hi 5 wh) (_hlo : 1 ≤ lo) (hNe : N = qZADD) (hpar : lo ≤ A.length → (A.length : Int) ≤ hi → A.length % 2 = 0 → res = .error wArgs)
  (hout : ¬ (lo ≤ A.length ∧ (A.length : Int) ≤ hi) → res = .error wArgs)
  (hnum : lo ≤ A.length → (A.length : Int) ≤ hi → A.length % 2 = 1 → (∃ j, 1 ≤ j ∧ j < A.length ∧ need9 wh j ∧ (A[j]?.bind numOf) = none) → res = .error wNum)
  (hkd : lo ≤ A.length → (A.length : Int) ≤ hi → A.length % 2 = 1 → NumsOk wh A → ∀ key, A[0]? = some key → okK 5 (getS (k.map RX.pr) key now) = false → res = .error wType)
  (ht9 : ∀ key, T9 ((getS (k.map RX.pr) key now).getD zeroT))
  (hf : ∀ {h1 : Heap} {xb : Nat} {av' pv lw rv : Value} {key : ByteArray}, A[0]? = some key → lo ≤ A.length → (A.length : Int) ≤ hi → A.length % 2 = 1 → NumsOk wh A → okK 5 (getS (k.map RX.pr) key now) = true → RG9 h kv k av' A key ((getS (k.map RX.pr) key now).getD zeroT) pv lw rv →
   As h h1 (aT xb ((getS (k.map RX.pr) key now).getD zeroT) pv lw rv key kv now av' (.slice none 0 0) [] noText) →
   CallsH Tryz.prog 63 [ptr xb, .string N] h1 (Ret (Reply9 h h1 xb ((getS (k.map RX.pr) key now).getD zeroT) pv lw rv key kv now av' (.slice none 0 0) res))) :
  CallsH Tryz.prog 31 [kv, .int .i64 now, av] h (Ret (DoR h res)) := by
 obtain ⟨ka, kc, rfl, _⟩ := hsl.form
 obtain ⟨a, cc, rfl, hcc⟩ := hA.form
 obtain ⟨b0, o0, rfl⟩ := hA.addr (by simp)
 have hl : (w :: A).length ≤ 20 := hal
 refine f31_calls (by simp) ?_
 intro b6 h1 g1
 have w1 := (St.start h).new g1
 refine Ai rfl (Ai (fun h0 => absurd h0 (by simp; omega)) (fun _ => ?_))
 have hc0 := (hA.ext w1.chg).cells encS_len (i := 0) (x := w) (by simp)
 refine Ai (by decide) (Ai (by simp) (Ei _ (Ai (by simpa using hc0 0 _ rfl) ?_)))
 refine w1.callv (rword_calls (by omega)) fun h2 w2 => ?_
 rw [hN]
 refine callp (hb h2) ?_
 refine Ai (by decide) (Ai (by simp only [List.length_cons]; omega) (Ai (by omega) ?_))
 refine sl_slc (lo := 1) (hi := (w :: A).length) encS_len (hA.ext w2.chg) (by simp) (Nat.le_refl _) fun v1 hv1 => ?_
 have e1 : ((w :: A).drop 1).take ((w :: A).length - 1) = A := by simp
 rw [e1] at hv1
 obtain ⟨a1, cc1, rfl, hcc1⟩ := (hv1 h hA).form
 intro xb h5 g5
 have w5 := w2.new g5
 have z2 := w2.chg.size
 have i5 := g5.id
 have c : RC9 h (.slice ka k.length kc) k (.slice a1 A.length cc1) A := ⟨hsl, hgx, hup, hlen, hfit, fun h' hc => hv1 h' (hA.ext hc)⟩
 have nomem : xb ∉ vblk (.slice none 0 0) := fun hm => (nomatch (show xb ∈ ([] : List Nat) from hm))
 have w : St [] h h5 [aT xb zeroT (.slice none 0 0) (.slice none 0 0) (.slice none 0 0) noText (.slice ka k.length kc) now (.slice a1 A.length cc1) (.slice none 0 0) [] noText, .b b6 [.int .i64 0, .int .i64 0, .string ⟨#[]⟩, .slice none 0 0]] :=
  w5.set 0 rfl (Chg.refl _) (by simp) ⟨w5.get 0 rfl, OL.nil, nomem⟩ (fun b hb => by
   rcases List.mem_cons.1 hb with rfl | hb
   ·exact .inl (by simp [En.fp])
   ·exact (nomatch (show b ∈ ([] : List Nat) from hb)))
 refine call_ret (rmany9_calls c (w.as 0 rfl)) ?_
 rintro _ h6 (⟨m1, m2, rfl, _, o6⟩ | ⟨mn, rfl, _, o6⟩)
 rotate_left
 ·have w := w.own 0 rfl o6
  refine w.ldr9 0 rfl rfl ?_
  refine w.callv rFail9_calls fun h7 w => ?_
  refine w.st1 1 rfl rfl rfl rfl fun h8 w => ?_
  rw [hout mn]
  exact ⟨_, rfl, cells_blk (w.get 1 rfl), w.chg, rfl⟩
 have w := w.own 0 rfl o6
 subst hNe
 refine Ai (fun he => absurd he (by decide)) (fun _ => ?_)
 refine Ai (fun _ => ?_) (fun he => absurd rfl he)
 refine w.ldr9 0 rfl rfl ?_
 refine Ai rfl (Ai (by decide) (fun z hz' => ?_))
 have hz' : z = ((A.length % 2 : Nat) : Int) := by rw [hz']; exact (Int.ofNat_tmod A.length 2).symm
 subst hz'
 refine Ai rfl (Ai (fun hev => ?_) (fun hodd => ?_))
 ·refine w.stw9 0 rfl fun h7 w => ?_
  refine w.ldr9 0 rfl rfl ?_
  refine w.callv rFail9_calls fun h8 w => ?_
  refine w.st1 1 rfl rfl rfl rfl fun h9 w => ?_
  rw [hpar m1 m2 (by omega)]
  exact ⟨_, rfl, cells_blk (w.get 1 rfl), w.chg, rfl⟩
 have hodd : A.length % 2 = 1 := by omega
 refine call_ret (rnums9_calls c (w.as 0 rfl) (by omega) hz) ?_
 rintro _ h7 (⟨hall, rfl, _, o7⟩ | ⟨hbad, rfl, _, o7⟩)
 rotate_left
 ·have w := w.own 0 rfl o7
  refine w.ldr9 0 rfl rfl ?_
  refine w.callv rFail9_calls fun h8 w => ?_
  refine w.st1 1 rfl rfl rfl rfl fun h9 w => ?_
  rw [hnum m1 m2 hodd hbad]
  exact ⟨_, rfl, cells_blk (w.get 1 rfl), w.chg, rfl⟩
 have w := w.own 0 rfl o7
 have hpos : 0 < A.length := by omega
 obtain ⟨key, hkey⟩ : ∃ key, A[0]? = some key := ⟨_, List.getElem?_eq_getElem hpos⟩
 have hks : key.size ≤ 300 := hz key (List.mem_of_getElem? hkey)
 obtain ⟨b1, o1, cc2, he1⟩ := c.argF hpos
 obtain ⟨rfl, _, rfl⟩ := Value.slice.inj he1
 refine w.ldr9 0 rfl rfl ?_
 refine c.ix (w.chg) 0 rfl hkey ?_
 refine w.stK9 0 rfl fun h8 w => ?_
 intro b17 h9 g9
 have w := w.new g9
 refine Ai (fun he => absurd he (by decide)) (fun _ => ?_)
 refine call_ret (rof9_calls (kd := 5) c (w.as 1 rfl) (by omega)) ?_
 rintro _ h10 ⟨pv, lw, rv, rfl, hth, _, o10⟩
 have w := w.own 1 rfl o10
 have l6 : b6 < h10.size := (show Blk h10 b6 _ from w.get 2 rfl).lt
 have l17 : b17 < h10.size := (show Blk h10 b17 _ from w.get 0 rfl).lt
 have fail : ∀ {h' : Heap} {why : ByteArray} {t' : Thing} {pv' lw' rv' lv' : Value} {key' : ByteArray} {E : List Eff} {r17 : List Value}, why ≠ noText → res = .error why → St [] h h' [.b b17 r17, aT xb t' pv' lw' rv' key' (.slice ka k.length kc) now (.slice (some ⟨b1, o1, none⟩) A.length cc1) lv' E why, .b b6 [.int .i64 0, .int .i64 0, .string ⟨#[]⟩, .slice none 0 0]] →
   swp Tryz.prog (.seq (.seq (.ops f31r28) (.cond (.tmp 130) (.seq (.ops f31r29) .ret) .skip)) (.seq (.two f31p30 f31r30 f31s30) .ret)) (retQ [.cn 6 4, .t 7, .t 8] (Ret (DoR h res))) (mk [(6, ptr b6), (15, ptr xb), (17, ptr b17)]) [] h' := by
  intro h' why t' pv' lw' rv' lv' key' E r17 hw hr w
  refine w.ldr9 1 rfl rfl ?_
  refine Ai (fun _ => ?_) (fun h9 => absurd (fun e => hw e) h9)
  refine w.ldr9 1 rfl rfl ?_
  refine w.callv rFail9_calls fun h10 w => ?_
  refine w.st1 2 rfl rfl rfl rfl fun h11 w => ?_
  rw [hr]
  exact ⟨_, rfl, cells_blk (w.get 2 rfl), w.chg, rfl⟩
 cases hok : okK 5 (getS (k.map RX.pr) key now) with
 |false =>
  rw [hok] at w
  exact cut_at [(6, ptr b6), (15, ptr xb), (17, ptr b17)] ⟨rfl, rfl, rfl, trivial⟩ (fail (why := wType) (by decide) (hkd m1 m2 hodd hall key hkey hok) w)
 |true =>
  rw [hok] at w
  refine Ai rfl (Ai (fun he => absurd he (by decide)) (fun _ => ?_))
  refine Ai rfl (Ai (fun he => absurd he (by decide)) (fun _ => ?_))
  refine Ai rfl (Ai (fun he => absurd he (by decide)) (fun _ => ?_))
  refine Ai rfl (Ai (fun _ => ?_) (fun he => absurd rfl he))
  refine call_ret (hf hkey m1 m2 hodd hall hok ⟨c, hth, ht9 key, hks, hz, by omega⟩ (w.as 1 rfl)) ?_
  rintro _ h11 ⟨q, lv', E, why, ⟨ra, rn, rc, rfl, sl, fr⟩, ⟨t', pv', lw', rv', key', _, o11⟩, hd⟩
  have w := w.own 1 rfl o11
  refine w.st2 0 rfl rfl rfl rfl fun h12 w k12 => ?_
  have sl12 : SL encQ h12 (.slice ra rn rc) q.l := sl.chg k12 (fun b hb => by have := fr b hb; simp; omega)
  rcases hd with ⟨rfl, hd⟩ | ⟨hne, hd⟩
  ·refine w.ldr9 1 rfl rfl ?_
   refine Ai (fun h9 => absurd rfl h9) (fun _ => ?_)
   obtain ⟨la, lc, rfl⟩ := w.rform9 1 rfl
   have fin : ∀ {h' : Heap}, St [] h h' [.b b17 [.int .i64 q.k, .int .i64 q.i, .string q.s, .slice ra rn rc], aT xb t' pv' lw' rv' key' (.slice ka k.length kc) now (.slice (some ⟨b1, o1, none⟩) A.length cc1) (.slice la E.length lc) E noText, .b b6 [.int .i64 q.k, .int .i64 q.i, .string q.s, .slice ra rn rc]] → Chg [b6] h12 h' →
     ∃ vs, vs.length = 4 ∧ Cells h' b6 0 vs ∧ DoR h res (.tuple ⟨[.agg ⟨vs⟩, .slice la E.length lc, .bool true]⟩) h' := fun w k => by
    rw [hd]
    refine ⟨_, rfl, cells_blk (w.get 2 rfl), w.chg, _, _, rfl, ⟨ra, rn, rc, rfl, sl12.chg k (fun b hb => by have := fr b hb; simp; omega), fun _ _ => Nat.zero_le _⟩, (w.get 1 rfl).2.1.sl, fun b hb => ?_⟩
    rcases (w.ents 1 _ rfl).2 b (List.mem_cons_of_mem _ hb) with h1 | h1
    ·cases h1
    ·exact h1
   refine w.ldw 0 rfl rfl ?_
   refine Ai ?_ ?_
   ·refine w.ldr9 1 rfl rfl ?_
    refine w.st2 2 rfl rfl rfl rfl fun h13 w k13 => ?_
    exact fin w k13
   ·refine w.st2 2 rfl rfl rfl rfl fun h13 w k13 => ?_
    refine w.ldr9 1 rfl rfl ?_
    exact fin w k13
  ·exact cut_at [(6, ptr b6), (15, ptr xb), (17, ptr b17)] ⟨rfl, rfl, rfl, trivial⟩ (fail hne hd w)
theorem rb_ZADD : BoundR9 qZADD 3 65536 5 4 := fun h => by
 refine f55_calls (by simp) ?_
 refine Ai (fun he => absurd he (by decide)) (fun _ => ?_)
 refine Ai (fun he => absurd he (by decide)) (fun _ => ?_)
 refine Ai (fun he => absurd he (by decide)) (fun _ => ?_)
 refine Ai (fun he => absurd he (by decide)) (fun _ => ?_)
 refine Ai (fun he => absurd he (by decide)) (fun _ => ?_)
 refine Ai (fun he => absurd he (by decide)) (fun _ => ?_)
 refine Ai (fun he => absurd he (by decide)) (fun _ => ?_)
 refine Ai (fun he => absurd he (by decide)) (fun _ => ?_)
 refine Ai (fun he => absurd he (by decide)) (fun _ => ?_)
 refine Ai (fun he => absurd he (by decide)) (fun _ => ?_)
 refine Ai (fun he => absurd he (by decide)) (fun _ => ?_)
 refine Ai (fun he => absurd he (by decide)) (fun _ => ?_)
 refine Ai (fun he => absurd he (by decide)) (fun _ => ?_)
 refine Ai (fun he => absurd he (by decide)) (fun _ => ?_)
 refine Ai (fun he => absurd he (by decide)) (fun _ => ?_)
 refine Ai (fun he => absurd he (by decide)) (fun _ => ?_)
 refine Ai (fun he => absurd he (by decide)) (fun _ => ?_)
 refine Ai (fun he => absurd he (by decide)) (fun _ => ?_)
 refine Ai (fun he => absurd he (by decide)) (fun _ => ?_)
 refine Ai (fun he => absurd he (by decide)) (fun _ => ?_)
 refine Ai (fun _ => ?_) (fun he => absurd rfl he)
 exact ⟨rfl, rfl⟩
theorem rb_ZREM : BoundR9 qZREM 2 65536 5 0 := fun h => by
 refine f55_calls (by simp) ?_
 refine Ai (fun he => absurd he (by decide)) (fun _ => ?_)
 refine Ai (fun he => absurd he (by decide)) (fun _ => ?_)
 refine Ai (fun he => absurd he (by decide)) (fun _ => ?_)
 refine Ai (fun he => absurd he (by decide)) (fun _ => ?_)
 refine Ai (fun he => absurd he (by decide)) (fun _ => ?_)
 refine Ai (fun he => absurd he (by decide)) (fun _ => ?_)
 refine Ai (fun he => absurd he (by decide)) (fun _ => ?_)
 refine Ai (fun he => absurd he (by decide)) (fun _ => ?_)
 refine Ai (fun he => absurd he (by decide)) (fun _ => ?_)
 refine Ai (fun he => absurd he (by decide)) (fun _ => ?_)
 refine Ai (fun he => absurd he (by decide)) (fun _ => ?_)
 refine Ai (fun he => absurd he (by decide)) (fun _ => ?_)
 refine Ai (fun he => absurd he (by decide)) (fun _ => ?_)
 refine Ai (fun he => absurd he (by decide)) (fun _ => ?_)
 refine Ai (fun he => absurd he (by decide)) (fun _ => ?_)
 refine Ai (fun he => absurd he (by decide)) (fun _ => ?_)
 refine Ai (fun he => absurd he (by decide)) (fun _ => ?_)
 refine Ai (fun he => absurd he (by decide)) (fun _ => ?_)
 refine Ai (fun he => absurd he (by decide)) (fun _ => ?_)
 refine Ai (fun he => absurd he (by decide)) (fun _ => ?_)
 refine Ai (fun he => absurd he (by decide)) (fun _ => ?_)
 refine Ai (fun _ => ?_) (fun he => absurd rfl he)
 exact ⟨rfl, rfl⟩
theorem rb_ZSCORE : BoundR9 qZSCORE 2 2 5 0 := fun h => by
 refine f55_calls (by simp) ?_
 refine Ai (fun he => absurd he (by decide)) (fun _ => ?_)
 refine Ai (fun he => absurd he (by decide)) (fun _ => ?_)
 refine Ai (fun he => absurd he (by decide)) (fun _ => ?_)
 refine Ai (fun he => absurd he (by decide)) (fun _ => ?_)
 refine Ai (fun he => absurd he (by decide)) (fun _ => ?_)
 refine Ai (fun he => absurd he (by decide)) (fun _ => ?_)
 refine Ai (fun he => absurd he (by decide)) (fun _ => ?_)
 refine Ai (fun he => absurd he (by decide)) (fun _ => ?_)
 refine Ai (fun he => absurd he (by decide)) (fun _ => ?_)
 refine Ai (fun he => absurd he (by decide)) (fun _ => ?_)
 refine Ai (fun he => absurd he (by decide)) (fun _ => ?_)
 refine Ai (fun he => absurd he (by decide)) (fun _ => ?_)
 refine Ai (fun he => absurd he (by decide)) (fun _ => ?_)
 refine Ai (fun he => absurd he (by decide)) (fun _ => ?_)
 refine Ai (fun he => absurd he (by decide)) (fun _ => ?_)
 refine Ai (fun he => absurd he (by decide)) (fun _ => ?_)
 refine Ai (fun he => absurd he (by decide)) (fun _ => ?_)
 refine Ai (fun he => absurd he (by decide)) (fun _ => ?_)
 refine Ai (fun he => absurd he (by decide)) (fun _ => ?_)
 refine Ai (fun he => absurd he (by decide)) (fun _ => ?_)
 refine Ai (fun he => absurd he (by decide)) (fun _ => ?_)
 refine Ai (fun he => absurd he (by decide)) (fun _ => ?_)
 refine Ai (fun _ => ?_) (fun he => absurd rfl he)
 exact ⟨rfl, rfl⟩
theorem rb_ZRANK : BoundR9 qZRANK 2 2 5 0 := fun h => by
 refine f55_calls (by simp) ?_
 refine Ai (fun he => absurd he (by decide)) (fun _ => ?_)
 refine Ai (fun he => absurd he (by decide)) (fun _ => ?_)
 refine Ai (fun he => absurd he (by decide)) (fun _ => ?_)
 refine Ai (fun he => absurd he (by decide)) (fun _ => ?_)
 refine Ai (fun he => absurd he (by decide)) (fun _ => ?_)
 refine Ai (fun he => absurd he (by decide)) (fun _ => ?_)
 refine Ai (fun he => absurd he (by decide)) (fun _ => ?_)
 refine Ai (fun he => absurd he (by decide)) (fun _ => ?_)
 refine Ai (fun he => absurd he (by decide)) (fun _ => ?_)
 refine Ai (fun he => absurd he (by decide)) (fun _ => ?_)
 refine Ai (fun he => absurd he (by decide)) (fun _ => ?_)
 refine Ai (fun he => absurd he (by decide)) (fun _ => ?_)
 refine Ai (fun he => absurd he (by decide)) (fun _ => ?_)
 refine Ai (fun he => absurd he (by decide)) (fun _ => ?_)
 refine Ai (fun he => absurd he (by decide)) (fun _ => ?_)
 refine Ai (fun he => absurd he (by decide)) (fun _ => ?_)
 refine Ai (fun he => absurd he (by decide)) (fun _ => ?_)
 refine Ai (fun he => absurd he (by decide)) (fun _ => ?_)
 refine Ai (fun he => absurd he (by decide)) (fun _ => ?_)
 refine Ai (fun he => absurd he (by decide)) (fun _ => ?_)
 refine Ai (fun he => absurd he (by decide)) (fun _ => ?_)
 refine Ai (fun he => absurd he (by decide)) (fun _ => ?_)
 refine Ai (fun he => absurd he (by decide)) (fun _ => ?_)
 refine Ai (fun _ => ?_) (fun he => absurd rfl he)
 exact ⟨rfl, rfl⟩
theorem rb_ZINCRBY : BoundR9 qZINCRBY 3 3 5 1 := fun h => by
 refine f55_calls (by simp) ?_
 refine Ai (fun he => absurd he (by decide)) (fun _ => ?_)
 refine Ai (fun he => absurd he (by decide)) (fun _ => ?_)
 refine Ai (fun he => absurd he (by decide)) (fun _ => ?_)
 refine Ai (fun he => absurd he (by decide)) (fun _ => ?_)
 refine Ai (fun he => absurd he (by decide)) (fun _ => ?_)
 refine Ai (fun he => absurd he (by decide)) (fun _ => ?_)
 refine Ai (fun he => absurd he (by decide)) (fun _ => ?_)
 refine Ai (fun he => absurd he (by decide)) (fun _ => ?_)
 refine Ai (fun he => absurd he (by decide)) (fun _ => ?_)
 refine Ai (fun he => absurd he (by decide)) (fun _ => ?_)
 refine Ai (fun he => absurd he (by decide)) (fun _ => ?_)
 refine Ai (fun he => absurd he (by decide)) (fun _ => ?_)
 refine Ai (fun he => absurd he (by decide)) (fun _ => ?_)
 refine Ai (fun he => absurd he (by decide)) (fun _ => ?_)
 refine Ai (fun he => absurd he (by decide)) (fun _ => ?_)
 refine Ai (fun he => absurd he (by decide)) (fun _ => ?_)
 refine Ai (fun he => absurd he (by decide)) (fun _ => ?_)
 refine Ai (fun he => absurd he (by decide)) (fun _ => ?_)
 refine Ai (fun he => absurd he (by decide)) (fun _ => ?_)
 refine Ai (fun he => absurd he (by decide)) (fun _ => ?_)
 refine Ai (fun he => absurd he (by decide)) (fun _ => ?_)
 refine Ai (fun he => absurd he (by decide)) (fun _ => ?_)
 refine Ai (fun he => absurd he (by decide)) (fun _ => ?_)
 refine Ai (fun he => absurd he (by decide)) (fun _ => ?_)
 refine Ai (fun _ => ?_) (fun he => absurd rfl he)
 exact ⟨rfl, rfl⟩
theorem rb_ZCARD : BoundR9 qZCARD 1 1 5 0 := fun h => by
 refine f55_calls (by simp) ?_
 refine Ai (fun he => absurd he (by decide)) (fun _ => ?_)
 refine Ai (fun he => absurd he (by decide)) (fun _ => ?_)
 refine Ai (fun he => absurd he (by decide)) (fun _ => ?_)
 refine Ai (fun he => absurd he (by decide)) (fun _ => ?_)
 refine Ai (fun he => absurd he (by decide)) (fun _ => ?_)
 refine Ai (fun he => absurd he (by decide)) (fun _ => ?_)
 refine Ai (fun he => absurd he (by decide)) (fun _ => ?_)
 refine Ai (fun he => absurd he (by decide)) (fun _ => ?_)
 refine Ai (fun he => absurd he (by decide)) (fun _ => ?_)
 refine Ai (fun he => absurd he (by decide)) (fun _ => ?_)
 refine Ai (fun he => absurd he (by decide)) (fun _ => ?_)
 refine Ai (fun he => absurd he (by decide)) (fun _ => ?_)
 refine Ai (fun he => absurd he (by decide)) (fun _ => ?_)
 refine Ai (fun he => absurd he (by decide)) (fun _ => ?_)
 refine Ai (fun he => absurd he (by decide)) (fun _ => ?_)
 refine Ai (fun he => absurd he (by decide)) (fun _ => ?_)
 refine Ai (fun he => absurd he (by decide)) (fun _ => ?_)
 refine Ai (fun he => absurd he (by decide)) (fun _ => ?_)
 refine Ai (fun he => absurd he (by decide)) (fun _ => ?_)
 refine Ai (fun he => absurd he (by decide)) (fun _ => ?_)
 refine Ai (fun he => absurd he (by decide)) (fun _ => ?_)
 refine Ai (fun he => absurd he (by decide)) (fun _ => ?_)
 refine Ai (fun he => absurd he (by decide)) (fun _ => ?_)
 refine Ai (fun he => absurd he (by decide)) (fun _ => ?_)
 refine Ai (fun he => absurd he (by decide)) (fun _ => ?_)
 refine Ai (fun _ => ?_) (fun he => absurd rfl he)
 exact ⟨rfl, rfl⟩
theorem rb_ZRANGE : BoundR9 qZRANGE 3 3 5 3 := fun h => by
 refine f55_calls (by simp) ?_
 refine Ai (fun he => absurd he (by decide)) (fun _ => ?_)
 refine Ai (fun he => absurd he (by decide)) (fun _ => ?_)
 refine Ai (fun he => absurd he (by decide)) (fun _ => ?_)
 refine Ai (fun he => absurd he (by decide)) (fun _ => ?_)
 refine Ai (fun he => absurd he (by decide)) (fun _ => ?_)
 refine Ai (fun he => absurd he (by decide)) (fun _ => ?_)
 refine Ai (fun he => absurd he (by decide)) (fun _ => ?_)
 refine Ai (fun he => absurd he (by decide)) (fun _ => ?_)
 refine Ai (fun he => absurd he (by decide)) (fun _ => ?_)
 refine Ai (fun he => absurd he (by decide)) (fun _ => ?_)
 refine Ai (fun he => absurd he (by decide)) (fun _ => ?_)
 refine Ai (fun he => absurd he (by decide)) (fun _ => ?_)
 refine Ai (fun he => absurd he (by decide)) (fun _ => ?_)
 refine Ai (fun he => absurd he (by decide)) (fun _ => ?_)
 refine Ai (fun he => absurd he (by decide)) (fun _ => ?_)
 refine Ai (fun he => absurd he (by decide)) (fun _ => ?_)
 refine Ai (fun he => absurd he (by decide)) (fun _ => ?_)
 refine Ai (fun he => absurd he (by decide)) (fun _ => ?_)
 refine Ai (fun he => absurd he (by decide)) (fun _ => ?_)
 refine Ai (fun he => absurd he (by decide)) (fun _ => ?_)
 refine Ai (fun he => absurd he (by decide)) (fun _ => ?_)
 refine Ai (fun he => absurd he (by decide)) (fun _ => ?_)
 refine Ai (fun he => absurd he (by decide)) (fun _ => ?_)
 refine Ai (fun he => absurd he (by decide)) (fun _ => ?_)
 refine Ai (fun he => absurd he (by decide)) (fun _ => ?_)
 refine Ai (fun he => absurd he (by decide)) (fun _ => ?_)
 refine Ai (fun _ => ?_) (fun he => absurd rfl he)
 exact ⟨rfl, rfl⟩
theorem rb_ZRANGEBYSCORE : BoundR9 qZRANGEBYSCORE 3 3 5 3 := fun h => by
 refine f55_calls (by simp) ?_
 refine Ai (fun he => absurd he (by decide)) (fun _ => ?_)
 refine Ai (fun he => absurd he (by decide)) (fun _ => ?_)
 refine Ai (fun he => absurd he (by decide)) (fun _ => ?_)
 refine Ai (fun he => absurd he (by decide)) (fun _ => ?_)
 refine Ai (fun he => absurd he (by decide)) (fun _ => ?_)
 refine Ai (fun he => absurd he (by decide)) (fun _ => ?_)
 refine Ai (fun he => absurd he (by decide)) (fun _ => ?_)
 refine Ai (fun he => absurd he (by decide)) (fun _ => ?_)
 refine Ai (fun he => absurd he (by decide)) (fun _ => ?_)
 refine Ai (fun he => absurd he (by decide)) (fun _ => ?_)
 refine Ai (fun he => absurd he (by decide)) (fun _ => ?_)
 refine Ai (fun he => absurd he (by decide)) (fun _ => ?_)
 refine Ai (fun he => absurd he (by decide)) (fun _ => ?_)
 refine Ai (fun he => absurd he (by decide)) (fun _ => ?_)
 refine Ai (fun he => absurd he (by decide)) (fun _ => ?_)
 refine Ai (fun he => absurd he (by decide)) (fun _ => ?_)
 refine Ai (fun he => absurd he (by decide)) (fun _ => ?_)
 refine Ai (fun he => absurd he (by decide)) (fun _ => ?_)
 refine Ai (fun he => absurd he (by decide)) (fun _ => ?_)
 refine Ai (fun he => absurd he (by decide)) (fun _ => ?_)
 refine Ai (fun he => absurd he (by decide)) (fun _ => ?_)
 refine Ai (fun he => absurd he (by decide)) (fun _ => ?_)
 refine Ai (fun he => absurd he (by decide)) (fun _ => ?_)
 refine Ai (fun he => absurd he (by decide)) (fun _ => ?_)
 refine Ai (fun he => absurd he (by decide)) (fun _ => ?_)
 refine Ai (fun he => absurd he (by decide)) (fun _ => ?_)
 refine Ai (fun he => absurd he (by decide)) (fun _ => ?_)
 refine Ai (fun _ => ?_) (fun he => absurd rfl he)
 exact ⟨rfl, rfl⟩
section
variable {S : Space} {now kd : Int} {key s u nm : ByteArray} {l : List ByteArray} {f : Thing → Res} {res : Res} {r : Rep} {E : List Eff} {a b : Res}
theorem QL.add {n m : Int} {f : Int → Res} (h : ∀ z, QL (f z)) : QL (addTo n m f) := QL.ite (h _) QL.bad
end
end Go.Proofs.YtjnijlnmbjjgpaaGreatDoor
namespace Go.Proofs.YtjnijlnmbjjgpaaGreatDoor
open Go Go.Sx C
section
variable {h0 h h1 h' : Heap} {xb i : Nat} {now n m : Int} {kv av lv pv lw rv : Value} {k : List RX} {A l : List ByteArray} {L E : List Eff} {why key s u nm : ByteArray} {t : Thing} {M : List En} {T : List Nat} {res : Res}
end
end Go.Proofs.YtjnijlnmbjjgpaaGreatDoor
namespace Go.Proofs.YtjnijlnmbjjgpaaGreatDoor
open Go Go.Sx C
section
variable {S : Space} {now kd : Int} {key s u nm : ByteArray} {l : List ByteArray} {f : Thing → Res} {res : Res} {r : Rep} {E : List Eff} {a b : Res}
end
end Go.Proofs.YtjnijlnmbjjgpaaGreatDoor
namespace Go.Proofs.YtjnijlnmbjjgpaaGreatDoor
open Go Go.Sx C
section
variable {h0 h h1 h' : Heap} {xb i : Nat} {now n m : Int} {kv av lv pv lw rv : Value} {k : List RX} {A l : List ByteArray} {L E : List Eff} {why key s u nm : ByteArray} {t : Thing} {M : List En} {T : List Nat} {res : Res}
theorem score_in (t9 : T9 t) {z : Int} (h : scoreF t.ranks nm = some z) : In64 z := by
 unfold scoreF at h
 cases hp : t.ranks.find? (fun r => decide (r.name = nm)) with
 |none => rw [hp] at h; cases h
 |some p =>
  rw [hp] at h
  rw [← Option.some.inj h]
  exact t9.ri p (List.mem_of_find?_eq_some hp)
theorem rzcard_calls (x : As h0 h (aT xb t pv lw rv key kv now av lv [] noText)) (g : RG9 h0 kv k av A key t pv lw rv) : CallsH Tryz.prog 63 [ptr xb, .string ⟨#[90, 67, 65, 82, 68]⟩] h
  (Ret (Reply9 h0 h xb t pv lw rv key kv now av lv (.ok (numR t.ranks.length, [])))) := by
 refine f63_calls (by simp) ?_
 intro b4 h1 g1
 have w := x.st.new g1
 have hsl := fun h2 hc => (th_lists (g.th h2 hc)).2.2
 obtain ⟨la, lc, rfl, _⟩ := (hsl h0 (Chg.refl _)).form
 have ln : t.ranks.length ≤ 2000 := g.t9.rs
 refine w.ldr9 1 rfl rfl ?_
 refine Ai (fun he => absurd he (by decide)) (fun _ => ?_)
 refine Ai (fun he => absurd he (by decide)) (fun _ => ?_)
 refine Ai (fun _ => ?_) (fun he => absurd rfl he)
 refine w.callv rInt9_calls fun h2 w => ?_
 refine w.st1 0 rfl rfl rfl rfl fun h3 w => ?_
 exact Reply9.fin x w 0 1 rfl rfl (Jd9.ok rfl)
theorem rzrem_calls (x : As h0 h (aT xb t pv lw rv key kv now av lv [] noText)) (g : RG9 h0 kv k av (key :: l) key t pv lw rv) : CallsH Tryz.prog 63 [ptr xb, .string ⟨#[90, 82, 69, 77]⟩] h
  (Ret (Reply9 h0 h xb t pv lw rv key kv now av lv (.ok (numR (hereL (thereR t.ranks) l).length, (hereL (thereR t.ranks) l).map fun n => ⟨15, key, n, noText, 0⟩)))) := by
 refine f63_calls (by simp) ?_
 intro b4 h1 g1
 have w := x.st.new g1
 have hsl := fun h2 hc => (th_lists (g.th h2 hc)).2.2
 obtain ⟨la, lc, rfl, _⟩ := (hsl h0 (Chg.refl _)).form
 have ln : t.ranks.length ≤ 2000 := g.t9.rs
 refine w.ldr9 1 rfl rfl ?_
 refine Ai (fun he => absurd he (by decide)) (fun _ => ?_)
 refine Ai (fun _ => ?_) (fun he => absurd rfl he)
 refine call_ret (raway_calls (th := thereR t.ranks) (fun x => rthere5_calls x g) (x.out w 1 rfl).1 g) ?_
 rintro _ h2 ⟨q, lv', E, why, ⟨ra, rn, rc, rfl, sl, fr⟩, ⟨t', pv', lw', rv', key', _, o2⟩, hd⟩
 have l4 : b4 < h1.size := (show Blk h1 b4 _ from w.get 0 rfl).lt
 have z1 := w.chg.size
 have w := w.own 1 rfl o2
 refine w.st2 0 rfl rfl rfl rfl fun h3 w k3 => ?_
 exact ⟨_, rfl, cells_blk (w.get 0 rfl), q, lv', E, why, ⟨ra, rn, rc, rfl, sl.chg k3 (fun b hb => by have := fr b hb; simp; omega), fun b hb => by have := fr b hb; omega⟩, ⟨t', pv', lw', rv', key', x.out w 1 rfl⟩, hd⟩
theorem rzscore_calls (hla : LaidN h0) (x : As h0 h (aT xb t pv lw rv key kv now av lv [] noText)) (g : RG9 h0 kv k av [key, s] key t pv lw rv) : CallsH Tryz.prog 63 [ptr xb, .string ⟨#[90, 83, 67, 79, 82, 69]⟩] h
  (Ret (Reply9 h0 h xb t pv lw rv key kv now av lv (match scoreF t.ranks s with
   |some z => .ok (textR ⟨⟨Lib.itoa z⟩⟩, [])
   |none => .ok (nilR, [])))) := by
 refine f63_calls (by simp) ?_
 intro b4 h1 g1
 have w := x.st.new g1
 have hsl := fun h2 hc => (th_lists (g.th h2 hc)).2.2
 obtain ⟨la, lc, rfl, _⟩ := (hsl h0 (Chg.refl _)).form
 have ln : t.ranks.length ≤ 2000 := g.t9.rs
 refine w.ldr9 1 rfl rfl ?_
 obtain ⟨b, o, cc, rfl⟩ := g.c.argF (by simp)
 refine Ai (fun he => absurd he (by decide)) (fun _ => ?_)
 refine Ai (fun he => absurd he (by decide)) (fun _ => ?_)
 refine Ai (fun he => absurd he (by decide)) (fun _ => ?_)
 refine Ai (fun _ => ?_) (fun he => absurd rfl he)
 refine w.ldr9 1 rfl rfl ?_
 refine g.c.ix (x.base w) 1 rfl rfl ?_
 refine call_ret (rscore_calls (x.out w 1 rfl).1 g) ?_
 rintro _ h2 ⟨hr, e⟩
 have e := e.symm
 subst e
 rcases hr with ⟨hf, hi, rfl⟩ | ⟨i, z, hf, hi, rfl⟩
 ·refine w.st1 0 rfl rfl rfl rfl fun h3 w => ?_
  exact Reply9.fin (a := 0) (m := 0) (s := noText) x w 0 1 rfl rfl (Jd9.ok (by rw [hf]; rfl))
 ·refine Ai (fun he => absurd he (by decide)) (fun _ => ?_)
  have z64 := score_in g.t9 hf
  refine w.callv (format_calls (hla.ext (x.base w)) z64.1 z64.2) fun h3 w => ?_
  refine w.callv rText9_calls fun h4 w => ?_
  refine w.st1 0 rfl rfl rfl rfl fun h5 w => ?_
  exact Reply9.fin x w 0 1 rfl rfl (Jd9.ok (by rw [hf]; rfl))
theorem rzrank_calls (_hla : LaidN h0) (x : As h0 h (aT xb t pv lw rv key kv now av lv [] noText)) (g : RG9 h0 kv k av [key, s] key t pv lw rv) : CallsH Tryz.prog 63 [ptr xb, .string ⟨#[90, 82, 65, 78, 75]⟩] h
  (Ret (Reply9 h0 h xb t pv lw rv key kv now av lv (match t.ranks.findIdx? fun r => decide (r.name = s) with
   |some i => .ok (numR i, [])
   |none => .ok (nilR, [])))) := by
 refine f63_calls (by simp) ?_
 intro b4 h1 g1
 have w := x.st.new g1
 have hsl := fun h2 hc => (th_lists (g.th h2 hc)).2.2
 obtain ⟨la, lc, rfl, _⟩ := (hsl h0 (Chg.refl _)).form
 have ln : t.ranks.length ≤ 2000 := g.t9.rs
 refine w.ldr9 1 rfl rfl ?_
 obtain ⟨b, o, cc, rfl⟩ := g.c.argF (by simp)
 refine Ai (fun he => absurd he (by decide)) (fun _ => ?_)
 refine Ai (fun he => absurd he (by decide)) (fun _ => ?_)
 refine Ai (fun he => absurd he (by decide)) (fun _ => ?_)
 refine Ai (fun he => absurd he (by decide)) (fun _ => ?_)
 refine Ai (fun _ => ?_) (fun he => absurd rfl he)
 refine w.ldr9 1 rfl rfl ?_
 refine g.c.ix (x.base w) 1 rfl rfl ?_
 refine call_ret (rscore_calls (x.out w 1 rfl).1 g) ?_
 rintro _ h2 ⟨hr, e⟩
 have e := e.symm
 subst e
 rcases hr with ⟨hf, hi, rfl⟩ | ⟨i, z, hf, hi, rfl⟩
 ·refine w.st1 0 rfl rfl rfl rfl fun h3 w => ?_
  exact Reply9.fin (a := 0) (m := 0) (s := noText) x w 0 1 rfl rfl (Jd9.ok (by rw [hi]; rfl))
 ·refine Ai (fun _ => ?_) (fun he => absurd rfl he)
  refine w.callv rInt9_calls fun h4 w => ?_
  refine w.st1 0 rfl rfl rfl rfl fun h5 w => ?_
  exact Reply9.fin x w 0 1 rfl rfl (Jd9.ok (by rw [hi]; rfl))
set_option maxHeartbeats 1000000 in
theorem rzincr_calls (hn : numOf s = some n) (hla : LaidN h0) (x : As h0 h (aT xb t pv lw rv key kv now av lv [] noText)) (g : RG9 h0 kv k av [key, s, nm] key t pv lw rv) : CallsH Tryz.prog 63 [ptr xb, .string ⟨#[90, 73, 78, 67, 82, 66, 89]⟩] h
  (Ret (Reply9 h0 h xb t pv lw rv key kv now av lv (addTo ((scoreF t.ranks nm).getD 0) n fun z => .ok (textR ⟨⟨Lib.itoa z⟩⟩, dropsS (k.map RX.pr) key now ++ [rankE key nm z])))) := by
 refine f63_calls (by simp) ?_
 intro b4 h1 g1
 have w := x.st.new g1
 have hsl := fun h2 hc => (th_lists (g.th h2 hc)).2.2
 obtain ⟨la, lc, rfl, _⟩ := (hsl h0 (Chg.refl _)).form
 have ln : t.ranks.length ≤ 2000 := g.t9.rs
 refine w.ldr9 1 rfl rfl ?_
 obtain ⟨b, o, cc, rfl⟩ := g.c.argF (by simp)
 refine Ai (fun he => absurd he (by decide)) (fun _ => ?_)
 refine Ai (fun he => absurd he (by decide)) (fun _ => ?_)
 refine Ai (fun he => absurd he (by decide)) (fun _ => ?_)
 refine Ai (fun he => absurd he (by decide)) (fun _ => ?_)
 refine Ai (fun he => absurd he (by decide)) (fun _ => ?_)
 have zk := g.ks
 have zn := g.az nm (by simp)
 have zs := g.az s (by simp)
 have n64 := numOf_in hn
 have tail : ∀ {cr : SCode} {h2 : Heap} {m items : Int}, (scoreF t.ranks nm).getD 0 = m → In64 m → items ≤ 65536 → St (xb :: vblk lv) h h2 [.b b4 [.int .i64 0, .int .i64 0, .string ⟨#[]⟩, .slice none 0 0], aT xb t pv lw (.slice la t.ranks.length lc) key kv now (.slice (some ⟨b, o, none⟩) [key, s, nm].length cc) lv [] noText] →
   swp Tryz.prog (.seq (.ops f63r33) (.seq (.seq (.ops f63r34) (.cond (.tmp 174) (.ops f63r35) .skip)) (.seq (.ops f63r36) .ret)))
    (thenQ (swp Tryz.prog cr (retQ [.cn 4 4] (Ret (Reply9 h0 h xb t pv lw (.slice la t.ranks.length lc) key kv now (.slice (some ⟨b, o, none⟩) [key, s, nm].length cc) lv (addTo ((scoreF t.ranks nm).getD 0) n fun z => .ok (textR ⟨⟨Lib.itoa z⟩⟩, dropsS (k.map RX.pr) key now ++ [rankE key nm z])))))) (retQ [.cn 4 4] (Ret (Reply9 h0 h xb t pv lw (.slice la t.ranks.length lc) key kv now (.slice (some ⟨b, o, none⟩) [key, s, nm].length cc) lv (addTo ((scoreF t.ranks nm).getD 0) n fun z => .ok (textR ⟨⟨Lib.itoa z⟩⟩, dropsS (k.map RX.pr) key now ++ [rankE key nm z]))))))
    (mk [(0, ptr xb), (4, ptr b4), (13, .int .i64 n), (16, .int .i64 m), (18, .int .i64 items)]) [] h2 := by
  intro cr h2 m items hm m64 hi w
  rw [hm]
  refine call_ret (rplus9_calls m64 n64 (x.out w 1 rfl).1) ?_
  rintro _ h6 (⟨ho, rfl, _, o6⟩ | ⟨ho, rfl, _, o6⟩)
  ·have w := w.own 1 rfl o6
   refine w.ldr9 1 rfl rfl ?_
   refine g.c.ix (x.base w) 2 rfl rfl ?_
   refine call_ret (rput9_calls g.c (x.out w 1 rfl).1 (by simp) hi (by omega) (by omega) (by decide)) ?_
   rintro _ h8 ⟨rfl, lv2, _, o8⟩
   have w := w.own 1 rfl o8
   refine w.callv (format_calls (hla.ext (x.base w)) ho.1 ho.2) fun h7 w => ?_
   refine w.callv rText9_calls fun h9 w => ?_
   refine w.st1 0 rfl rfl rfl rfl fun h10 w => ?_
   exact Reply9.fin x w 0 1 rfl rfl (Jd9.ok (if_pos ho))
  ·have w := w.own 1 rfl o6
   refine w.callv (format_calls (hla.ext (x.base w)) (by decide) (by decide)) fun h7 w => ?_
   refine w.callv rText9_calls fun h9 w => ?_
   refine w.st1 0 rfl rfl rfl rfl fun h10 w => ?_
   exact Reply9.fin x w 0 1 rfl rfl (Jd9.no (why := wOver) (by decide) (if_neg ho))
 refine w.ldr9 1 rfl rfl ?_
 refine g.c.ix (x.base w) 1 rfl rfl ?_
 refine callp (rnum_some (by omega) hn) ?_
 refine Ai (fun _ => ?_) (fun he => absurd rfl he)
 refine w.ldr9 1 rfl rfl ?_
 refine g.c.ix (x.base w) 2 rfl rfl ?_
 refine call_ret (rscore_calls (x.out w 1 rfl).1 g) ?_
 rintro _ h2 ⟨hr, e⟩
 have e := e.symm
 subst e
 rcases hr with ⟨hf, _, rfl⟩ | ⟨i, z0, hf, _, rfl⟩
 ·refine Ai rfl (fun z hz => ?_)
  have hz := add_in hz (by omega) (by omega)
  subst hz
  refine cut_in [(0, ptr xb), (4, ptr b4), (13, .int .i64 n), (16, .int .i64 0), (17, .bool false), (18, .int .i64 ((t.ranks.length + 1 : Nat) : Int))] (mono_thenQ (fun σ σ' ds h hs hh => swp_sub _ _ σ σ' ds h mono_retQ hs hh) mono_retQ) ⟨rfl, rfl, rfl, rfl, rfl, rfl, trivial⟩ ?_
  refine ass_go ?_
  refine mv_go (v := .bool false) rfl ?_
  refine cnd_go (t := false) rfl ?_
  refine skp_go ?_
  exact cut_in [(0, ptr xb), (4, ptr b4), (13, .int .i64 n), (16, .int .i64 0), (18, .int .i64 ((t.ranks.length + 1 : Nat) : Int))] (mono_thenQ (fun σ σ' ds h hs hh => swp_sub _ _ σ σ' ds h mono_retQ hs hh) mono_retQ) ⟨rfl, rfl, rfl, rfl, rfl, trivial⟩ (tail (by rw [hf]; rfl) ⟨by decide, by decide⟩ (by omega) w)
 ·have z64 := score_in g.t9 hf
  refine Ai rfl (fun z hz => ?_)
  have hz := add_in hz (by omega) (by omega)
  subst hz
  refine Ai rfl (fun z hz => ?_)
  have hz : z = (t.ranks.length : Int) := hz.trans ((wrap_in (by omega) (by omega)).trans (by omega))
  subst hz
  exact cut_in [(0, ptr xb), (4, ptr b4), (13, .int .i64 n), (16, .int .i64 z0), (18, .int .i64 (t.ranks.length : Int))] (mono_thenQ (fun σ σ' ds h hs hh => swp_sub _ _ σ σ' ds h mono_retQ hs hh) mono_retQ) ⟨rfl, rfl, rfl, rfl, rfl, trivial⟩ (tail (by rw [hf]; rfl) z64 (by omega) w)
end
end Go.Proofs.YtjnijlnmbjjgpaaGreatDoor
namespace Go.Proofs.YtjnijlnmbjjgpaaGreatDoor
open Go Go.Sx C
section
variable {h0 h h1 h' : Heap} {xb i : Nat} {now n m : Int} {kv av lv pv lw rv : Value} {k : List RX} {A l : List ByteArray} {L E : List Eff} {why key s u nm : ByteArray} {t : Thing} {M : List En} {T : List Nat} {res : Res} {r : List (Int × ByteArray)}
theorem scored_at (hr : scored (twos l) = some r) {q : Nat} (h : 2 * q + 1 < l.length) : ∃ z, numOf l[2 * q] = some z ∧ r[q]? = some (z, l[2 * q + 1]) := scored_get hr (twos_get h)
theorem scored_snd (hr : scored (twos l) = some r) {q : Nat} (h : 2 * q + 1 < l.length) : (r.map Prod.snd)[q]? = some l[2 * q + 1] := by
 obtain ⟨z, _, h2⟩ := scored_at hr h
 rw [List.getElem?_map, h2]; rfl
theorem ahead3_in (hr : scored (twos l) = some r) {q : Nat} (hq : 2 * q + 1 < l.length) (h : ∃ j, 2 + j * 2 < 2 + q * 2 ∧ (key :: l)[2 + j * 2]? = (key :: l)[2 + q * 2]?) : l[2 * q + 1] ∈ (r.map Prod.snd).take q := by
 obtain ⟨j, h1, h2⟩ := h
 have e : 2 + j * 2 = (2 * j + 1) + 1 := by omega
 have e' : 2 + q * 2 = (2 * q + 1) + 1 := by omega
 rw [e, e', List.getElem?_cons_succ, List.getElem?_cons_succ, List.getElem?_eq_getElem (by omega), List.getElem?_eq_getElem (by omega)] at h2
 rw [← Option.some.inj h2]
 refine List.mem_iff_getElem?.2 ⟨j, ?_⟩
 rw [List.getElem?_take_of_lt (by omega), scored_snd hr (by omega)]
theorem ahead3_no (hr : scored (twos l) = some r) {q : Nat} (hq : 2 * q + 1 < l.length) (h : ∀ j, 2 + j * 2 < 2 + q * 2 → (key :: l)[2 + j * 2]? ≠ (key :: l)[2 + q * 2]?) : l[2 * q + 1] ∉ (r.map Prod.snd).take q := by
 intro hm
 obtain ⟨j, he⟩ := List.mem_iff_getElem?.1 hm
 have hj : j < q := by
  obtain ⟨hlt, _⟩ := List.getElem?_eq_some_iff.1 he
  rw [List.length_take] at hlt
  omega
 rw [List.getElem?_take_of_lt hj, scored_snd hr (by omega)] at he
 refine h j (by omega) ?_
 have e : 2 + j * 2 = (2 * j + 1) + 1 := by omega
 have e' : 2 + q * 2 = (2 * q + 1) + 1 := by omega
 rw [e, e', List.getElem?_cons_succ, List.getElem?_cons_succ, List.getElem?_eq_getElem (by omega), List.getElem?_eq_getElem (by omega), Option.some.inj he]
set_option maxHeartbeats 2000000 in
theorem rzadd_calls (hr : scored (twos l) = some r) (x : As h0 h (aT xb t pv lw rv key kv now av lv [] noText)) (g : RG9 h0 kv k av (key :: l) key t pv lw rv) (h2 : 2 ≤ l.length) (hev : l.length % 2 = 0) : CallsH Tryz.prog 63 [ptr xb, .string ⟨#[90, 65, 68, 68]⟩] h
  (Ret (Reply9 h0 h xb t pv lw rv key kv now av lv (.ok (numR (newL (thereR t.ranks) [] (r.map Prod.snd)).length, dropsS (k.map RX.pr) key now ++ r.map fun p => rankE key p.2 p.1)))) := by
 have al := g.al
 simp only [List.length_cons] at al
 obtain ⟨b, o, cc, rfl⟩ := g.c.argF (by simp)
 refine f63_calls (by simp) ?_
 intro b4 h1 g1
 have w := x.st.new g1
 have hsl := fun h2 hc => (th_lists (g.th h2 hc)).2.2
 obtain ⟨la, lc, rfl, _⟩ := (hsl h0 (Chg.refl _)).form
 have ln : t.ranks.length ≤ 2000 := g.t9.rs
 have zk := g.ks
 obtain ⟨N, hN⟩ : ∃ N, N = r.map Prod.snd := ⟨_, rfl⟩
 obtain ⟨Es, hEs⟩ : ∃ Es, Es = r.map fun p => rankE key p.2 p.1 := ⟨_, rfl⟩
 have hhalf := twos_half (Nat.le_refl l.length)
 have hrl := scored_len hr
 have hNl : N.length = (twos l).length := by rw [hN, List.length_map, hrl]
 have hEl : Es.length = (twos l).length := by rw [hEs, List.length_map, hrl]
 have hnl : ∀ q, (newL (thereR t.ranks) [] (N.take q)).length ≤ 20 := fun q => by
  have := newL_len (th := thereR t.ranks) (l := N.take q) (pre := [])
  rw [List.length_take] at this
  omega
 rw [← hN, ← hEs]
 refine w.ldr9 1 rfl rfl ?_
 refine Ai (fun _ => ?_) (fun he => absurd rfl he)
 refine loop_intro (fun q : Nat × Value => [(0, ptr xb), (4, ptr b4), (5, .slice la t.ranks.length lc), (6, .int .i64 ((newL (thereR t.ranks) [] (N.take q.1)).length : Nat)), (7, .int .i64 ((1 + q.1 * 2 : Nat) : Int))])
  (fun q h' => 2 * q.1 ≤ l.length ∧ St (xb :: vblk lv) h h' [.b b4 [.int .i64 0, .int .i64 0, .string ⟨#[]⟩, .slice none 0 0], aT xb t pv lw (.slice la t.ranks.length lc) key kv now (.slice (some ⟨b, o, none⟩) (key :: l).length cc) q.2 (accG (k.map RX.pr) key now Es q.1) noText])
  (fun q => l.length - 2 * q.1) (0, lv) ⟨rfl, rfl, rfl, rfl, rfl, trivial⟩ ⟨Nat.zero_le _, w⟩ ?_
 rintro ⟨q, lq⟩ h4 ⟨hq, w⟩
 have hq : 2 * q ≤ l.length := hq
 have hn4 := hnl q
 have hn5 : (newL (thereR t.ranks) [] (N.take (q, lq).1)).length ≤ 20 := hn4
 have la2 := accG_len (S := k.map RX.pr) (key := key) (now := now) (Es := Es) (j := q) (by omega)
 have w : St (xb :: vblk lv) h h4 [.b b4 [.int .i64 0, .int .i64 0, .string ⟨#[]⟩, .slice none 0 0], aT xb t pv lw (.slice la t.ranks.length lc) key kv now (.slice (some ⟨b, o, none⟩) (key :: l).length cc) lq (accG (k.map RX.pr) key now Es q) noText] := w
 refine w.ldr9 1 rfl rfl ?_
 refine Ai rfl (Ai (fun hlt => ?_) (fun hge => ?_))
 ·have hlt : 2 * q + 1 < l.length := by simp only [List.length_cons] at hlt; omega
  obtain ⟨zq, hzq, hrq⟩ := scored_at hr hlt
  have hNq : N[q]? = some l[2 * q + 1] := by have e := scored_snd hr hlt; rw [← hN] at e; exact e
  have hNlt : q < N.length := (List.getElem?_eq_some_iff.1 hNq).1
  have hNe : N[q] = l[2 * q + 1] := (List.getElem?_eq_some_iff.1 hNq).2
  have hEq : Es[q]? = some ⟨14, key, l[2 * q + 1], ⟨#[]⟩, zq⟩ := by
   have e : (r.map fun p => rankE key p.2 p.1)[q]? = some (rankE key l[2 * q + 1] zq) := by rw [List.getElem?_map, hrq]; rfl
   rw [← hEs] at e; exact e
  have hA1 : (key :: l)[1 + q * 2]? = some l[2 * q] := by rw [show 1 + q * 2 = 2 * q + 1 by omega, List.getElem?_cons_succ, List.getElem?_eq_getElem (by omega)]
  have hA2 : (key :: l)[1 + q * 2 + 1]? = some l[2 * q + 1] := by rw [show 1 + q * 2 + 1 = (2 * q + 1) + 1 by omega, List.getElem?_cons_succ, List.getElem?_eq_getElem hlt]
  have zn := g.az l[2 * q] (List.mem_cons_of_mem _ (List.getElem_mem _))
  have zt := g.az l[2 * q + 1] (List.mem_cons_of_mem _ (List.getElem_mem _))
  have ain := ahead3_in (key := key) hr hlt
  have ano := ahead3_no (key := key) hr hlt
  rw [← hN] at ain ano
  have hsn := newL_snoc (th := thereR t.ranks) hNlt
  rw [hNe] at hsn
  refine w.ldr9 1 rfl rfl ?_
  refine Ai rfl (fun z hz => ?_)
  have hz := add_in hz (by omega) (by omega)
  subst hz
  refine g.c.ix (x.base w) (1 + q * 2 + 1) rfl hA2 ?_
  refine call_ret (rthere5_calls (x.out w 1 rfl).1 g) ?_
  rintro _ h5 ⟨hr, e5⟩
  have e5 := e5.symm
  subst e5
  have same : (!thereR t.ranks l[2 * q + 1] && decide (l[2 * q + 1] ∉ N.take q)) = false → (newL (thereR t.ranks) [] (N.take (q + 1))).length = (newL (thereR t.ranks) [] (N.take q)).length := fun hc => by rw [hsn, hc, if_neg (by decide), List.append_nil]
  rcases hr with ⟨hf, rfl⟩ | ⟨hf, rfl⟩
  ·refine Ai rfl (fun z hz => ?_)
   have hz := add_in hz (by omega) (by omega)
   subst hz
   refine call_ret (rahead_calls (p := 1 + q * 2 + 1) (f0 := 2) (st := 2) (x.out w 1 rfl).1 g.c (by simp only [List.length_cons]; omega) (by simp only [List.length_cons]; omega) (by omega) (Nat.le_refl _)) ?_
   rintro _ h6 ⟨hr, e6⟩
   have e6 := e6.symm
   subst e6
   rcases hr with ⟨ha, rfl⟩ | ⟨ha, rfl⟩
   ·have hc : (!thereR t.ranks l[2 * q + 1] && decide (l[2 * q + 1] ∉ N.take q)) = true := by rw [hf, decide_eq_true (ano (by simpa only [show 1 + q * 2 + 1 = 2 + q * 2 by omega] using ha))]; rfl
    have hln : (newL (thereR t.ranks) [] (N.take (q + 1))).length = (newL (thereR t.ranks) [] (N.take q)).length + 1 := by rw [hsn, hc, if_pos rfl]; simp
    refine Ai rfl (fun z hz => ?_)
    have hz := add_in hz (by omega) (by omega)
    subst hz
    refine w.ldr9 1 rfl rfl ?_
    refine g.c.ix (x.base w) (1 + q * 2) rfl hA1 ?_
    refine callp (rnum_some (by omega) hzq) ?_
    refine w.ldr9 1 rfl rfl ?_
    refine Ai rfl (fun z hz => ?_)
    have hz := add_in hz (by omega) (by omega)
    subst hz
    refine g.c.ix (x.base w) (1 + q * 2 + 1) rfl hA2 ?_
    refine Ai rfl (fun z hz => ?_)
    have hz : z = (t.ranks.length : Int) + (((newL (thereR t.ranks) [] (N.take q)).length + 1 : Nat) : Int) := hz.trans (wrap_in (by omega) (by omega))
    subst hz
    refine call_ret (rput9_calls g.c (x.out w 1 rfl).1 (Nat.le_trans la2 (by omega)) (by omega) (by omega) (by omega) (by decide)) ?_
    rintro _ h6 ⟨rfl, lv2, _, o6⟩
    have w := w.own 1 rfl o6
    rw [accG_next hEq] at w
    refine Ai rfl (fun z hz => ?_)
    have hz : z = ((1 + (q + 1) * 2 : Nat) : Int) := (hz.trans (wrap_in (by omega) (by omega))).trans (by omega)
    subst hz
    exact Ai rfl (Ei (q + 1, _) (Ai ⟨rfl, rfl, rfl, by rw [hln]; rfl, rfl, trivial⟩ (Ai ⟨by show 2 * (q + 1) ≤ _; omega, w⟩ (by simp only; omega))))
   ·have hln := same (by rw [decide_eq_false (fun hn => hn (ain (by simpa only [show 1 + q * 2 + 1 = 2 + q * 2 by omega] using ha))), Bool.and_false])
    refine w.ldr9 1 rfl rfl ?_
    refine g.c.ix (x.base w) (1 + q * 2) rfl hA1 ?_
    refine callp (rnum_some (by omega) hzq) ?_
    refine w.ldr9 1 rfl rfl ?_
    refine Ai rfl (fun z hz => ?_)
    have hz := add_in hz (by omega) (by omega)
    subst hz
    refine g.c.ix (x.base w) (1 + q * 2 + 1) rfl hA2 ?_
    refine Ai rfl (fun z hz => ?_)
    have hz : z = (t.ranks.length : Int) + (((newL (thereR t.ranks) [] (N.take q)).length : Nat) : Int) := hz.trans (wrap_in (by omega) (by omega))
    subst hz
    refine call_ret (rput9_calls g.c (x.out w 1 rfl).1 (Nat.le_trans la2 (by omega)) (by omega) (by omega) (by omega) (by decide)) ?_
    rintro _ h6 ⟨rfl, lv2, _, o6⟩
    have w := w.own 1 rfl o6
    rw [accG_next hEq] at w
    refine Ai rfl (fun z hz => ?_)
    have hz : z = ((1 + (q + 1) * 2 : Nat) : Int) := (hz.trans (wrap_in (by omega) (by omega))).trans (by omega)
    subst hz
    exact Ai rfl (Ei (q + 1, _) (Ai ⟨rfl, rfl, rfl, by rw [hln]; rfl, rfl, trivial⟩ (Ai ⟨by show 2 * (q + 1) ≤ _; omega, w⟩ (by simp only; omega))))
  ·have hln := same (by rw [hf]; rfl)
   refine w.ldr9 1 rfl rfl ?_
   refine g.c.ix (x.base w) (1 + q * 2) rfl hA1 ?_
   refine callp (rnum_some (by omega) hzq) ?_
   refine w.ldr9 1 rfl rfl ?_
   refine Ai rfl (fun z hz => ?_)
   have hz := add_in hz (by omega) (by omega)
   subst hz
   refine g.c.ix (x.base w) (1 + q * 2 + 1) rfl hA2 ?_
   refine Ai rfl (fun z hz => ?_)
   have hz : z = (t.ranks.length : Int) + (((newL (thereR t.ranks) [] (N.take q)).length : Nat) : Int) := hz.trans (wrap_in (by omega) (by omega))
   subst hz
   refine call_ret (rput9_calls g.c (x.out w 1 rfl).1 (Nat.le_trans la2 (by omega)) (by omega) (by omega) (by omega) (by decide)) ?_
   rintro _ h6 ⟨rfl, lv2, _, o6⟩
   have w := w.own 1 rfl o6
   rw [accG_next hEq] at w
   refine Ai rfl (fun z hz => ?_)
   have hz : z = ((1 + (q + 1) * 2 : Nat) : Int) := (hz.trans (wrap_in (by omega) (by omega))).trans (by omega)
   subst hz
   exact Ai rfl (Ei (q + 1, _) (Ai ⟨rfl, rfl, rfl, by rw [hln]; rfl, rfl, trivial⟩ (Ai ⟨by show 2 * (q + 1) ≤ _; omega, w⟩ (by simp only; omega))))
 ·have hkl : 2 * q = l.length := by simp only [List.length_cons] at hge; omega
  have hqN : N.length ≤ q := by omega
  have hqE : Es.length ≤ q := by omega
  refine w.callv rInt9_calls fun h6 w => ?_
  refine w.st1 0 rfl rfl rfl rfl fun h7 w => ?_
  exact Reply9.fin x w 0 1 rfl rfl (Jd9.ok (by unfold accG; rw [if_neg (by omega), List.take_of_length_le hqN, List.take_of_length_le hqE]; rfl))
end
end Go.Proofs.YtjnijlnmbjjgpaaGreatDoor
namespace Go.Proofs.YtjnijlnmbjjgpaaGreatDoor
open Go Go.Sx C
section
variable {h0 h h1 h' : Heap} {xb i : Nat} {now n m : Int} {kv av lv pv lw rv : Value} {k : List RX} {A l : List ByteArray} {L E : List Eff} {why key s u nm : ByteArray} {t : Thing} {M : List En} {T : List Nat} {res : Res}
theorem rng_next {α : Type} {l : List α} {i p q : Nat} (hi : i < l.length) : (l.take (min (i + 1) q)).drop p = (l.take (min i q)).drop p ++ (if p ≤ i ∧ i < q then [l[i]] else []) := by
 by_cases hq : i < q
 ·rw [Nat.min_eq_left (by omega : i + 1 ≤ q), Nat.min_eq_left (by omega : i ≤ q), List.take_succ_eq_append_getElem hi]
  by_cases hp : p ≤ i
  ·rw [if_pos ⟨hp, hq⟩, List.drop_append_of_le_length (by rw [List.length_take]; omega)]
  ·rw [if_neg (fun h => hp h.1), List.append_nil, List.drop_eq_nil_of_le (by rw [List.length_append, List.length_take, List.length_singleton]; omega), List.drop_eq_nil_of_le (by rw [List.length_take]; omega)]
 ·rw [if_neg (fun h => hq h.2), List.append_nil, Nat.min_eq_right (by omega : q ≤ i + 1), Nat.min_eq_right (by omega : q ≤ i)]
theorem flt_next {l : List Rank} {P : Rank → Bool} {i : Nat} (hi : i < l.length) : (l.take (i + 1)).filter P = (l.take i).filter P ++ (if P l[i] = true then [l[i]] else []) := by
 rw [List.take_succ_eq_append_getElem hi, List.filter_append]
 congr 1
 cases hp : P l[i] with
 |true => rw [if_pos rfl]; simp [hp]
 |false => rw [if_neg (by decide)]; simp [hp]
set_option maxHeartbeats 1000000 in
theorem rzrange_calls (hn : numOf s = some n) (hm : numOf u = some m) (x : As h0 h (aT xb t pv lw rv key kv now av lv [] noText)) (g : RG9 h0 kv k av [key, s, u] key t pv lw rv) : CallsH Tryz.prog 63 [ptr xb, .string ⟨#[90, 82, 65, 78, 71, 69]⟩] h
  (Ret (Reply9 h0 h xb t pv lw rv key kv now av lv (.ok (listR ((spanL t.ranks n m).map Rank.name), [])))) := by
 refine f63_calls (by simp) ?_
 intro b4 h1 g1
 have w := x.st.new g1
 have hsl := fun h2 hc => (th_lists (g.th h2 hc)).2.2
 obtain ⟨la, lc, rfl, _⟩ := (hsl h0 (Chg.refl _)).form
 have ln : t.ranks.length ≤ 2000 := g.t9.rs
 obtain ⟨b, o, cc, rfl⟩ := g.c.argF (by simp)
 have zs := g.az s (by simp)
 have zu := g.az u (by simp)
 have n64 := numOf_in hn
 have m64 := numOf_in hm
 refine w.ldr9 1 rfl rfl ?_
 refine Ai (fun he => absurd he (by decide)) (fun _ => ?_)
 refine Ai (fun he => absurd he (by decide)) (fun _ => ?_)
 refine Ai (fun he => absurd he (by decide)) (fun _ => ?_)
 refine Ai (fun he => absurd he (by decide)) (fun _ => ?_)
 refine Ai (fun he => absurd he (by decide)) (fun _ => ?_)
 refine w.ldr9 1 rfl rfl ?_
 refine g.c.ix (x.base w) 1 rfl rfl ?_
 refine callp (rnum_some (by omega) hn) ?_
 refine Ai (fun he => absurd he (by decide)) (fun _ => ?_)
 refine w.ldr9 1 rfl rfl ?_
 refine g.c.ix (x.base w) 2 rfl rfl ?_
 refine callp (rnum_some (by omega) hm) ?_
 refine callp (rspan_calls (by omega) n64 m64) ?_
 have hsp := spanN_le t.ranks.length n m
 obtain ⟨p1, hp1⟩ : ∃ p1, p1 = (spanN t.ranks.length n m).1 := ⟨_, rfl⟩
 obtain ⟨p2, hp2⟩ : ∃ p2, p2 = (spanN t.ranks.length n m).2 := ⟨_, rfl⟩
 rw [← hp1, ← hp2]
 rw [← hp1, ← hp2] at hsp
 have w := w.empty (enc := encS) (size := 1)
 refine loop_intro (fun q : Nat × Value => [(0, ptr xb), (1, .string ⟨#[90, 82, 65, 78, 71, 69]⟩), (4, ptr b4), (5, .slice la t.ranks.length lc), (13, .int .i64 n), (20, .int .i64 m), (22, q.2), (23, .int .i64 p1), (24, .int .i64 p2), (25, .int .i64 q.1)])
  (fun q h' => q.1 ≤ t.ranks.length ∧ St (xb :: vblk lv) h h' [.o encS 1 q.2 (((t.ranks.take (min q.1 p2)).drop p1).map Rank.name), .b b4 [.int .i64 0, .int .i64 0, .string ⟨#[]⟩, .slice none 0 0], aT xb t pv lw (.slice la t.ranks.length lc) key kv now (.slice (some ⟨b, o, none⟩) [key, s, u].length cc) lv [] noText])
  (fun q => t.ranks.length - q.1) (0, .slice none 0 0) ⟨rfl, rfl, rfl, rfl, rfl, rfl, rfl, rfl, rfl, rfl, trivial⟩ ⟨Nat.zero_le _, by show St _ h h1 [.o encS 1 (.slice none 0 0) (((t.ranks.take (min 0 p2)).drop p1).map Rank.name), _, _]; rw [show (((t.ranks.take (min 0 p2)).drop p1).map Rank.name) = ([] : List ByteArray) by simp]; exact w⟩ ?_
 rintro ⟨i, v⟩ h4 ⟨hi, w⟩
 have hi : i ≤ t.ranks.length := hi
 have w : St (xb :: vblk lv) h h4 [.o encS 1 v (((t.ranks.take (min i p2)).drop p1).map Rank.name), .b b4 [.int .i64 0, .int .i64 0, .string ⟨#[]⟩, .slice none 0 0], aT xb t pv lw (.slice la t.ranks.length lc) key kv now (.slice (some ⟨b, o, none⟩) [key, s, u].length cc) lv [] noText] := w
 obtain ⟨ac, hac⟩ : ∃ ac, ac = (((t.ranks.take (min i p2)).drop p1).map Rank.name) := ⟨_, rfl⟩
 have hal : ac.length ≤ 2000 := by rw [hac]; simp only [List.length_map, List.length_drop, List.length_take]; omega
 rw [← hac] at w
 obtain ⟨a4, c4, rfl, _⟩ := (show OL encS 1 h4 v ac from w.get 0 rfl).sl.form
 refine Ai rfl (Ai (fun hlt => ?_) (fun hge => ?_))
 ·have hlt : i < t.ranks.length := by omega
  obtain ⟨rb, ro, rfl⟩ := (hsl h0 (Chg.refl _)).addr (by omega)
  have hcs := (hsl _ (x.base w)).cells encR_len (List.getElem?_eq_getElem hlt)
  have nxY : (p1 ≤ i ∧ i < p2) → (((t.ranks.take (min (i + 1) p2)).drop p1).map Rank.name) = ac ++ [t.ranks[i].name] := fun hc => by rw [rng_next hlt, if_pos hc, List.map_append, hac]; rfl
  have nxN : ¬ (p1 ≤ i ∧ i < p2) → (((t.ranks.take (min (i + 1) p2)).drop p1).map Rank.name) = ac := fun hc => by rw [rng_next hlt, if_neg hc, List.append_nil, hac]
  refine Ai (fun _ => ?_) (fun he => absurd rfl he)
  refine Ai rfl (Ai (fun q1 => ?_) (fun q1 => ?_))
  ·refine Ai rfl (Ai (fun q2 => ?_) (fun q2 => ?_))
   ·refine Ai (by omega) (Ai (by omega) (Ei _ (Ai (by simpa using hcs 0 _ rfl) ?_)))
    intro b9 h8 g8
    have w := w.new g8
    refine w.app 1 rfl encS_len encS_one rfl (SL.one encS_len (x := t.ranks[i].name) (w.get 0 rfl)) (by simp only [List.length_singleton]; omega) fun v' h9 w => ?_
    rw [← nxY ⟨by omega, by omega⟩] at w
    have w := w.pick [1, 2, 3] (by decide)
    refine Ai rfl (fun z hz => ?_)
    have hz := add_in hz (by omega) (by omega)
    subst hz
    exact Ai rfl (Ei (i + 1, _) (Ai ⟨rfl, rfl, rfl, rfl, rfl, rfl, rfl, rfl, rfl, rfl, trivial⟩ (Ai ⟨hlt, w⟩ (by simp only; omega))))
   ·refine Ai (fun hne => absurd rfl hne) (fun _ => ?_)
    have w : St (xb :: vblk lv) h h4 [.o encS 1 (.slice a4 ac.length c4) (((t.ranks.take (min (i + 1) p2)).drop p1).map Rank.name), .b b4 [.int .i64 0, .int .i64 0, .string ⟨#[]⟩, .slice none 0 0], aT xb t pv lw (.slice (some ⟨rb, ro, none⟩) t.ranks.length lc) key kv now (.slice (some ⟨b, o, none⟩) [key, s, u].length cc) lv [] noText] := by rw [nxN (fun h => q2 (by omega))]; exact w
    refine Ai rfl (fun z hz => ?_)
    have hz := add_in hz (by omega) (by omega)
    subst hz
    exact Ai rfl (Ei (i + 1, _) (Ai ⟨rfl, rfl, rfl, rfl, rfl, rfl, rfl, rfl, rfl, rfl, trivial⟩ (Ai ⟨hlt, w⟩ (by simp only; omega))))
  ·refine Ai (fun hne => absurd rfl hne) (fun _ => ?_)
   have w : St (xb :: vblk lv) h h4 [.o encS 1 (.slice a4 ac.length c4) (((t.ranks.take (min (i + 1) p2)).drop p1).map Rank.name), .b b4 [.int .i64 0, .int .i64 0, .string ⟨#[]⟩, .slice none 0 0], aT xb t pv lw (.slice (some ⟨rb, ro, none⟩) t.ranks.length lc) key kv now (.slice (some ⟨b, o, none⟩) [key, s, u].length cc) lv [] noText] := by rw [nxN (fun h => q1 (by omega))]; exact w
   refine Ai rfl (fun z hz => ?_)
   have hz := add_in hz (by omega) (by omega)
   subst hz
   exact Ai rfl (Ei (i + 1, _) (Ai ⟨rfl, rfl, rfl, rfl, rfl, rfl, rfl, rfl, rfl, rfl, trivial⟩ (Ai ⟨hlt, w⟩ (by simp only; omega))))
 ·have hil : i = t.ranks.length := by omega
  have se := (show OL encS 1 h4 _ ac from w.get 0 rfl).sl
  have l4 : b4 < h4.size := (show Blk h4 b4 _ from w.get 1 rfl).lt
  have z1 := w.chg.size
  refine call_ret (rtexts_calls se (by omega)) ?_
  rintro _ h5 ⟨⟨ra, rn, rc, rfl, sl, fr⟩, c5⟩
  have w := w.ext c5
  refine w.st2 1 rfl rfl rfl rfl fun h6 w k6 => ?_
  exact ⟨_, rfl, cells_blk (w.get 1 rfl), listR ac, lv, [], noText, ⟨ra, rn, rc, rfl, sl.chg k6 (fun b hb => by have := fr b hb; simp; omega), fun b hb => by have := fr b hb; omega⟩, ⟨t, _, _, _, key, x.out w 2 rfl⟩, Jd9.ok (by rw [hac, hil]; rw [Nat.min_eq_right hsp.2]; unfold spanL; rw [← hp1, ← hp2, List.drop_take])⟩
set_option maxHeartbeats 1000000 in
theorem rzby_calls (hn : numOf s = some n) (hm : numOf u = some m) (x : As h0 h (aT xb t pv lw rv key kv now av lv [] noText)) (g : RG9 h0 kv k av [key, s, u] key t pv lw rv) : CallsH Tryz.prog 63 [ptr xb, .string ⟨#[90, 82, 65, 78, 71, 69, 66, 89, 83, 67, 79, 82, 69]⟩] h
  (Ret (Reply9 h0 h xb t pv lw rv key kv now av lv (.ok (listR ((t.ranks.filter fun r => decide (n ≤ r.score) && decide (r.score ≤ m)).map Rank.name), [])))) := by
 refine f63_calls (by simp) ?_
 intro b4 h1 g1
 have w := x.st.new g1
 have hsl := fun h2 hc => (th_lists (g.th h2 hc)).2.2
 obtain ⟨la, lc, rfl, _⟩ := (hsl h0 (Chg.refl _)).form
 have ln : t.ranks.length ≤ 2000 := g.t9.rs
 obtain ⟨b, o, cc, rfl⟩ := g.c.argF (by simp)
 have zs := g.az s (by simp)
 have zu := g.az u (by simp)
 have n64 := numOf_in hn
 have m64 := numOf_in hm
 refine w.ldr9 1 rfl rfl ?_
 refine Ai (fun he => absurd he (by decide)) (fun _ => ?_)
 refine Ai (fun he => absurd he (by decide)) (fun _ => ?_)
 refine Ai (fun he => absurd he (by decide)) (fun _ => ?_)
 refine Ai (fun he => absurd he (by decide)) (fun _ => ?_)
 refine Ai (fun he => absurd he (by decide)) (fun _ => ?_)
 refine w.ldr9 1 rfl rfl ?_
 refine g.c.ix (x.base w) 1 rfl rfl ?_
 refine callp (rnum_some (by omega) hn) ?_
 refine Ai (fun he => absurd he (by decide)) (fun _ => ?_)
 refine w.ldr9 1 rfl rfl ?_
 refine g.c.ix (x.base w) 2 rfl rfl ?_
 refine callp (rnum_some (by omega) hm) ?_
 refine callp (rspan_calls (by omega) n64 m64) ?_
 have hsp := spanN_le t.ranks.length n m
 obtain ⟨p1, hp1⟩ : ∃ p1, p1 = (spanN t.ranks.length n m).1 := ⟨_, rfl⟩
 obtain ⟨p2, hp2⟩ : ∃ p2, p2 = (spanN t.ranks.length n m).2 := ⟨_, rfl⟩
 rw [← hp1, ← hp2]
 rw [← hp1, ← hp2] at hsp
 have w := w.empty (enc := encS) (size := 1)
 refine loop_intro (fun q : Nat × Value => [(0, ptr xb), (1, .string ⟨#[90, 82, 65, 78, 71, 69, 66, 89, 83, 67, 79, 82, 69]⟩), (4, ptr b4), (5, .slice la t.ranks.length lc), (13, .int .i64 n), (20, .int .i64 m), (22, q.2), (23, .int .i64 p1), (24, .int .i64 p2), (25, .int .i64 q.1)])
  (fun q h' => q.1 ≤ t.ranks.length ∧ St (xb :: vblk lv) h h' [.o encS 1 q.2 (((t.ranks.take q.1).filter fun r => decide (n ≤ r.score) && decide (r.score ≤ m)).map Rank.name), .b b4 [.int .i64 0, .int .i64 0, .string ⟨#[]⟩, .slice none 0 0], aT xb t pv lw (.slice la t.ranks.length lc) key kv now (.slice (some ⟨b, o, none⟩) [key, s, u].length cc) lv [] noText])
  (fun q => t.ranks.length - q.1) (0, .slice none 0 0) ⟨rfl, rfl, rfl, rfl, rfl, rfl, rfl, rfl, rfl, rfl, trivial⟩ ⟨Nat.zero_le _, by show St _ h h1 [.o encS 1 (.slice none 0 0) (((t.ranks.take 0).filter fun r => decide (n ≤ r.score) && decide (r.score ≤ m)).map Rank.name), _, _]; rw [show (((t.ranks.take 0).filter fun r => decide (n ≤ r.score) && decide (r.score ≤ m)).map Rank.name) = ([] : List ByteArray) by simp]; exact w⟩ ?_
 rintro ⟨i, v⟩ h4 ⟨hi, w⟩
 have hi : i ≤ t.ranks.length := hi
 have w : St (xb :: vblk lv) h h4 [.o encS 1 v (((t.ranks.take i).filter fun r => decide (n ≤ r.score) && decide (r.score ≤ m)).map Rank.name), .b b4 [.int .i64 0, .int .i64 0, .string ⟨#[]⟩, .slice none 0 0], aT xb t pv lw (.slice la t.ranks.length lc) key kv now (.slice (some ⟨b, o, none⟩) [key, s, u].length cc) lv [] noText] := w
 obtain ⟨ac, hac⟩ : ∃ ac, ac = (((t.ranks.take i).filter fun r => decide (n ≤ r.score) && decide (r.score ≤ m)).map Rank.name) := ⟨_, rfl⟩
 have hal : ac.length ≤ 2000 := by rw [hac]; refine Nat.le_trans (by rw [List.length_map]; exact List.length_filter_le _ _) ?_; rw [List.length_take]; omega
 rw [← hac] at w
 obtain ⟨a4, c4, rfl, _⟩ := (show OL encS 1 h4 v ac from w.get 0 rfl).sl.form
 refine Ai rfl (Ai (fun hlt => ?_) (fun hge => ?_))
 ·have hlt : i < t.ranks.length := by omega
  obtain ⟨rb, ro, rfl⟩ := (hsl h0 (Chg.refl _)).addr (by omega)
  have hcs := (hsl _ (x.base w)).cells encR_len (List.getElem?_eq_getElem hlt)
  have nxY : (n ≤ t.ranks[i].score ∧ t.ranks[i].score ≤ m) → (((t.ranks.take (i + 1)).filter fun r => decide (n ≤ r.score) && decide (r.score ≤ m)).map Rank.name) = ac ++ [t.ranks[i].name] := fun hc => by rw [flt_next hlt, if_pos (by rw [decide_eq_true hc.1, decide_eq_true hc.2]; rfl), List.map_append, hac]; rfl
  have nxN : ¬ (n ≤ t.ranks[i].score ∧ t.ranks[i].score ≤ m) → (((t.ranks.take (i + 1)).filter fun r => decide (n ≤ r.score) && decide (r.score ≤ m)).map Rank.name) = ac := fun hc => by rw [flt_next hlt, if_neg (by simpa using hc), List.append_nil, hac]
  refine Ai (fun he => absurd he (by decide)) (fun _ => ?_)
  refine Ai (fun _ => ?_) (fun he => absurd (by decide) he)
  refine Ai (by omega) (Ai (by omega) (Ei _ (Ai (by simpa using hcs 1 _ rfl) ?_)))
  refine Ai rfl (Ai (fun q1 => ?_) (fun q1 => ?_))
  ·refine Ai (by omega) (Ai (by omega) (Ei _ (Ai (by simpa using hcs 1 _ rfl) ?_)))
   refine Ai rfl (Ai (fun q2 => ?_) (fun q2 => ?_))
   ·refine Ai (by omega) (Ai (by omega) (Ei _ (Ai (by simpa using hcs 0 _ rfl) ?_)))
    intro b9 h8 g8
    have w := w.new g8
    refine w.app 1 rfl encS_len encS_one rfl (SL.one encS_len (x := t.ranks[i].name) (w.get 0 rfl)) (by simp only [List.length_singleton]; omega) fun v' h9 w => ?_
    rw [← nxY ⟨by omega, by omega⟩] at w
    have w := w.pick [1, 2, 3] (by decide)
    refine Ai rfl (fun z hz => ?_)
    have hz := add_in hz (by omega) (by omega)
    subst hz
    exact Ai rfl (Ei (i + 1, _) (Ai ⟨rfl, rfl, rfl, rfl, rfl, rfl, rfl, rfl, rfl, rfl, trivial⟩ (Ai ⟨hlt, w⟩ (by simp only; omega))))
   ·have w : St (xb :: vblk lv) h h4 [.o encS 1 (.slice a4 ac.length c4) (((t.ranks.take (i + 1)).filter fun r => decide (n ≤ r.score) && decide (r.score ≤ m)).map Rank.name), .b b4 [.int .i64 0, .int .i64 0, .string ⟨#[]⟩, .slice none 0 0], aT xb t pv lw (.slice (some ⟨rb, ro, none⟩) t.ranks.length lc) key kv now (.slice (some ⟨b, o, none⟩) [key, s, u].length cc) lv [] noText] := by rw [nxN (fun h => q2 (by omega))]; exact w
    refine Ai rfl (fun z hz => ?_)
    have hz := add_in hz (by omega) (by omega)
    subst hz
    exact Ai rfl (Ei (i + 1, _) (Ai ⟨rfl, rfl, rfl, rfl, rfl, rfl, rfl, rfl, rfl, rfl, trivial⟩ (Ai ⟨hlt, w⟩ (by simp only; omega))))
  ·have w : St (xb :: vblk lv) h h4 [.o encS 1 (.slice a4 ac.length c4) (((t.ranks.take (i + 1)).filter fun r => decide (n ≤ r.score) && decide (r.score ≤ m)).map Rank.name), .b b4 [.int .i64 0, .int .i64 0, .string ⟨#[]⟩, .slice none 0 0], aT xb t pv lw (.slice (some ⟨rb, ro, none⟩) t.ranks.length lc) key kv now (.slice (some ⟨b, o, none⟩) [key, s, u].length cc) lv [] noText] := by rw [nxN (fun h => q1 (by omega))]; exact w
   refine Ai rfl (fun z hz => ?_)
   have hz := add_in hz (by omega) (by omega)
   subst hz
   exact Ai rfl (Ei (i + 1, _) (Ai ⟨rfl, rfl, rfl, rfl, rfl, rfl, rfl, rfl, rfl, rfl, trivial⟩ (Ai ⟨hlt, w⟩ (by simp only; omega))))
 ·have hil : i = t.ranks.length := by omega
  have se := (show OL encS 1 h4 _ ac from w.get 0 rfl).sl
  have l4 : b4 < h4.size := (show Blk h4 b4 _ from w.get 1 rfl).lt
  have z1 := w.chg.size
  refine call_ret (rtexts_calls se (by omega)) ?_
  rintro _ h5 ⟨⟨ra, rn, rc, rfl, sl, fr⟩, c5⟩
  have w := w.ext c5
  refine w.st2 1 rfl rfl rfl rfl fun h6 w k6 => ?_
  exact ⟨_, rfl, cells_blk (w.get 1 rfl), listR ac, lv, [], noText, ⟨ra, rn, rc, rfl, sl.chg k6 (fun b hb => by have := fr b hb; simp; omega), fun b hb => by have := fr b hb; omega⟩, ⟨t, _, _, _, key, x.out w 2 rfl⟩, Jd9.ok (by rw [hac, hil]; rw [List.take_length])⟩
end
end Go.Proofs.YtjnijlnmbjjgpaaGreatDoor
namespace Go.Proofs.YtjnijlnmbjjgpaaGreatDoor
open Go Go.Sx C
section
variable {S : Space} {now kd : Int} {key s u nm : ByteArray} {l : List ByteArray} {f : Thing → Res} {res : Res} {r : Rep} {E : List Eff} {a b : Res}
def vZREM : ByteArray := ⟨#[90, 82, 69, 77]⟩
theorem byP_ZREM (hln : l.length ≤ 12) (hz : ∀ a ∈ (key :: l), a.size ≤ 300) : ByP9 now (vZREM :: (key :: l)) (fun S => cZrem S now (key :: l)) := by
 intro h kb sb mb c m S av kr hs s8 s9 hla ht hav
 have hA : ∀ a ∈ (key :: l : List ByteArray), a.size < 281474976710656 := fun a ha => by have := hz a ha; omega
 exact do9_calls (w := vZREM) kr hav (by simp only [List.length_cons]; omega) (by decide) (by kernel_rfl) (fun h2 ab av' hx x => zrem9 ⟨kr, hs, hx⟩ s9 s8.few.ins ht x)
theorem sh_ZREM (hln : l.length ≤ 12) (hz : ∀ a ∈ (key :: l), a.size ≤ 300) : ∀ S, S8 S → S9 S → Short (cZrem S now (key :: l)) := fun S s8 s9 => short_of (fine_zrem s8.few s9 (by simp only [List.length_cons]; omega) hz) (QL.ite (QL.kind (fun t ht => QL.one (by show (0 : Nat) ≤ _; omega)) s9) QL.bad)
theorem byR_ZREM (hln : l.length ≤ 12) (hz : ∀ a ∈ (key :: l), a.size ≤ 300) : ByR9 now (vZREM :: (key :: l)) (fun S => cZrem S now (key :: l)) := by
 intro h kv av k hsl hgx hup hlen hfit s8 s9 hla hav
 refine rdoZ_calls (N := qZREM) (A := (key :: l)) hsl hgx hup (by omega) hfit hav (by simp only [List.length_cons]; omega) (by decide) hz (by kernel_rfl) rb_ZREM (by decide) (by decide) (by decide) (by decide) ?_ ?_ ?_ (fun key => s9.get key now) ?_
 ·intro hh
  cases l with
  |nil => rfl
  |cons a l => exact absurd ⟨by simp only [List.length_cons]; omega, by simp only [List.length_cons] at hln ⊢; omega⟩ hh
 ·rintro _ _ ⟨j, h1, h2, h3, _⟩
  unfold need9 at h3; omega
 ·intro m1 m2 hall key' hk' hok
  obtain rfl : key = key' := Option.some.inj hk'
  have hp : 1 ≤ l.length ∧ l.length < 65536 := ⟨by simp only [List.length_cons] at m1; omega, by omega⟩
  show (if 1 ≤ l.length ∧ l.length < 65536 then kindly _ _ _ _ _ else _) = _
  rw [if_pos hp, kindlyR_no hok]
 ·intro h1 xb av' pv lw rv key' hk' m1 m2 hall hok g x
  obtain rfl : key = key' := Option.some.inj hk'
  have hp : 1 ≤ l.length ∧ l.length < 65536 := ⟨by simp only [List.length_cons] at m1; omega, by omega⟩
  have e : cZrem (k.map RX.pr) now (key :: l) = .ok (numR (hereL (thereR ((getS (k.map RX.pr) key now).getD zeroT).ranks) l).length, (hereL (thereR ((getS (k.map RX.pr) key now).getD zeroT).ranks) l).map fun n => ⟨15, key, n, noText, 0⟩) := by
   show (if 1 ≤ l.length ∧ l.length < 65536 then kindly _ _ _ _ _ else _) = _
   rw [if_pos hp, kindlyR_ok hok]
   rfl
  have hh := rzrem_calls x g
  rw [← e] at hh
  exact hh
def vZCARD : ByteArray := ⟨#[90, 67, 65, 82, 68]⟩
theorem byP_ZCARD (hz : ∀ a ∈ [key], a.size ≤ 300) : ByP9 now (vZCARD :: [key]) (fun S => cZcard S now [key]) := by
 intro h kb sb mb c m S av kr hs s8 s9 hla ht hav
 have hA : ∀ a ∈ ([key] : List ByteArray), a.size < 281474976710656 := fun a ha => by have := hz a ha; omega
 exact do9_calls (w := vZCARD) kr hav (by simp only [List.length_cons, List.length_nil]; omega) (by decide) (by kernel_rfl) (fun h2 ab av' hx x => zcard9 ⟨kr, hs, hx⟩ x)
theorem sh_ZCARD : ∀ S, S8 S → S9 S → Short (cZcard S now [key]) := fun S s8 s9 => short_of (fine_zcard) (by simp only [cZcard, arg1]; exact QL.kind (fun t ht => QL.one (by show (0 : Nat) ≤ _; omega)) s9)
theorem byR_ZCARD (hz : ∀ a ∈ [key], a.size ≤ 300) : ByR9 now (vZCARD :: [key]) (fun S => cZcard S now [key]) := by
 intro h kv av k hsl hgx hup hlen hfit s8 s9 hla hav
 refine rdoZ_calls (N := qZCARD) (A := [key]) hsl hgx hup (by omega) hfit hav (by simp only [List.length_cons, List.length_nil]; omega) (by decide) hz (by kernel_rfl) rb_ZCARD (by decide) (by decide) (by decide) (by decide) ?_ ?_ ?_ (fun key => s9.get key now) ?_
 ·intro hh; exact absurd ⟨by simp, by simp⟩ hh
 ·rintro _ _ ⟨j, h1, h2, h3, _⟩
  unfold need9 at h3; simp at h2; omega
 ·intro m1 m2 hall key' hk' hok
  obtain rfl : key = key' := Option.some.inj hk'
  simp only [cZcard, arg1, kindlyR_no hok]
 ·intro h1 xb av' pv lw rv key' hk' m1 m2 hall hok g x
  obtain rfl : key = key' := Option.some.inj hk'
  simp only [cZcard, arg1, kindlyR_ok hok]
  exact rzcard_calls x g
def vZSCORE : ByteArray := ⟨#[90, 83, 67, 79, 82, 69]⟩
theorem byP_ZSCORE (hz : ∀ a ∈ [key, s], a.size ≤ 300) : ByP9 now (vZSCORE :: [key, s]) (fun S => cZscore S now [key, s]) := by
 intro h kb sb mb c m S av kr hs s8 s9 hla ht hav
 have hA : ∀ a ∈ ([key, s] : List ByteArray), a.size < 281474976710656 := fun a ha => by have := hz a ha; omega
 exact do9_calls (w := vZSCORE) kr hav (by simp only [List.length_cons, List.length_nil]; omega) (by decide) (by kernel_rfl) (fun h2 ab av' hx x => zscore9 ⟨kr, hs, hx⟩ s9 s8.few.ins hla ht x)
theorem sh_ZSCORE : ∀ S, S8 S → S9 S → Short (cZscore S now [key, s]) := fun S s8 s9 => short_of (fine_zscore) (by simp only [cZscore, arg2]; exact QL.kind (fun t ht => by split <;> exact QL.one (by show (0 : Nat) ≤ _; omega)) s9)
theorem byR_ZSCORE (hz : ∀ a ∈ [key, s], a.size ≤ 300) : ByR9 now (vZSCORE :: [key, s]) (fun S => cZscore S now [key, s]) := by
 intro h kv av k hsl hgx hup hlen hfit s8 s9 hla hav
 refine rdoZ_calls (N := qZSCORE) (A := [key, s]) hsl hgx hup (by omega) hfit hav (by simp only [List.length_cons, List.length_nil]; omega) (by decide) hz (by kernel_rfl) rb_ZSCORE (by decide) (by decide) (by decide) (by decide) ?_ ?_ ?_ (fun key => s9.get key now) ?_
 ·intro hh; exact absurd ⟨by simp, by simp⟩ hh
 ·rintro _ _ ⟨j, h1, h2, h3, _⟩
  unfold need9 at h3; simp at h2; omega
 ·intro m1 m2 hall key' hk' hok
  obtain rfl : key = key' := Option.some.inj hk'
  simp only [cZscore, arg2, kindlyR_no hok]
 ·intro h1 xb av' pv lw rv key' hk' m1 m2 hall hok g x
  obtain rfl : key = key' := Option.some.inj hk'
  simp only [cZscore, arg2, kindlyR_ok hok]
  exact rzscore_calls hla x g
def vZRANK : ByteArray := ⟨#[90, 82, 65, 78, 75]⟩
theorem byP_ZRANK (hz : ∀ a ∈ [key, s], a.size ≤ 300) : ByP9 now (vZRANK :: [key, s]) (fun S => cZrank S now [key, s]) := by
 intro h kb sb mb c m S av kr hs s8 s9 hla ht hav
 have hA : ∀ a ∈ ([key, s] : List ByteArray), a.size < 281474976710656 := fun a ha => by have := hz a ha; omega
 exact do9_calls (w := vZRANK) kr hav (by simp only [List.length_cons, List.length_nil]; omega) (by decide) (by kernel_rfl) (fun h2 ab av' hx x => zrank9 ⟨kr, hs, hx⟩ s9 s8.few.ins ht x)
theorem sh_ZRANK : ∀ S, S8 S → S9 S → Short (cZrank S now [key, s]) := fun S s8 s9 => short_of (fine_zrank) (by simp only [cZrank, arg2]; exact QL.kind (fun t ht => by split <;> exact QL.one (by show (0 : Nat) ≤ _; omega)) s9)
theorem byR_ZRANK (hz : ∀ a ∈ [key, s], a.size ≤ 300) : ByR9 now (vZRANK :: [key, s]) (fun S => cZrank S now [key, s]) := by
 intro h kv av k hsl hgx hup hlen hfit s8 s9 hla hav
 refine rdoZ_calls (N := qZRANK) (A := [key, s]) hsl hgx hup (by omega) hfit hav (by simp only [List.length_cons, List.length_nil]; omega) (by decide) hz (by kernel_rfl) rb_ZRANK (by decide) (by decide) (by decide) (by decide) ?_ ?_ ?_ (fun key => s9.get key now) ?_
 ·intro hh; exact absurd ⟨by simp, by simp⟩ hh
 ·rintro _ _ ⟨j, h1, h2, h3, _⟩
  unfold need9 at h3; simp at h2; omega
 ·intro m1 m2 hall key' hk' hok
  obtain rfl : key = key' := Option.some.inj hk'
  simp only [cZrank, arg2, kindlyR_no hok]
 ·intro h1 xb av' pv lw rv key' hk' m1 m2 hall hok g x
  obtain rfl : key = key' := Option.some.inj hk'
  simp only [cZrank, arg2, kindlyR_ok hok]
  exact rzrank_calls hla x g
def vZRANGE : ByteArray := ⟨#[90, 82, 65, 78, 71, 69]⟩
theorem byP_ZRANGE (hz : ∀ a ∈ [key, s, u], a.size ≤ 300) : ByP9 now (vZRANGE :: [key, s, u]) (fun S => cZrange S now [key, s, u]) := by
 intro h kb sb mb c m S av kr hs s8 s9 hla ht hav
 have hA : ∀ a ∈ ([key, s, u] : List ByteArray), a.size < 281474976710656 := fun a ha => by have := hz a ha; omega
 exact do9_calls (w := vZRANGE) kr hav (by simp only [List.length_cons, List.length_nil]; omega) (by decide) (by kernel_rfl) (fun h2 ab av' hx x => zrange9 ⟨kr, hs, hx⟩ s9 s8.few.ins hla ht hA x)
theorem sh_ZRANGE : ∀ S, S8 S → S9 S → Short (cZrange S now [key, s, u]) := fun S s8 s9 => short_of (fine_zrange) (by simp only [cZrange, arg3]; exact QL.num fun n => QL.num fun m => QL.kind (fun t ht => QL.one (by show (((spanL t.ranks n m).map _).map _).length ≤ _; have := ht.rs; unfold spanL; simp only [List.length_map, List.length_take, List.length_drop]; omega)) s9)
theorem byR_ZRANGE (hz : ∀ a ∈ [key, s, u], a.size ≤ 300) : ByR9 now (vZRANGE :: [key, s, u]) (fun S => cZrange S now [key, s, u]) := by
 intro h kv av k hsl hgx hup hlen hfit s8 s9 hla hav
 refine rdoZ_calls (N := qZRANGE) (A := [key, s, u]) hsl hgx hup (by omega) hfit hav (by simp only [List.length_cons, List.length_nil]; omega) (by decide) hz (by kernel_rfl) rb_ZRANGE (by decide) (by decide) (by decide) (by decide) ?_ ?_ ?_ (fun key => s9.get key now) ?_
 ·intro hh; exact absurd ⟨by simp, by simp⟩ hh
 ·rintro _ _ ⟨j, h1, h2, h3, h4⟩
  have h2 : j < 3 := h2
  rcases (show j = 1 ∨ j = 2 by omega) with rfl | rfl
  ·have h4 : numOf s = none := h4
   simp [cZrange, arg3, numbered, h4]
  ·have h4 : numOf u = none := h4
   cases hs : numOf s <;> simp [cZrange, arg3, numbered, h4, hs]
 ·intro m1 m2 hall key' hk' hok
  obtain rfl : key = key' := Option.some.inj hk'
  obtain ⟨nn, hn⟩ := hall 1 (by decide) (by simp) (.inr (.inl rfl))
  have hn : numOf s = some nn := hn
  obtain ⟨mm, hm⟩ := hall 2 (by decide) (by simp) (.inr (.inl rfl))
  have hm : numOf u = some mm := hm
  simp only [cZrange, arg3, numbered, hn, hm, kindlyR_no hok]
 ·intro h1 xb av' pv lw rv key' hk' m1 m2 hall hok g x
  obtain rfl : key = key' := Option.some.inj hk'
  obtain ⟨nn, hn⟩ := hall 1 (by decide) (by simp) (.inr (.inl rfl))
  have hn : numOf s = some nn := hn
  obtain ⟨mm, hm⟩ := hall 2 (by decide) (by simp) (.inr (.inl rfl))
  have hm : numOf u = some mm := hm
  simp only [cZrange, arg3, numbered, hn, hm, kindlyR_ok hok]
  exact rzrange_calls hn hm x g
def vZRANGEBYSCORE : ByteArray := ⟨#[90, 82, 65, 78, 71, 69, 66, 89, 83, 67, 79, 82, 69]⟩
theorem byP_ZRANGEBYSCORE (hz : ∀ a ∈ [key, s, u], a.size ≤ 300) : ByP9 now (vZRANGEBYSCORE :: [key, s, u]) (fun S => cZby S now [key, s, u]) := by
 intro h kb sb mb c m S av kr hs s8 s9 hla ht hav
 have hA : ∀ a ∈ ([key, s, u] : List ByteArray), a.size < 281474976710656 := fun a ha => by have := hz a ha; omega
 exact do9_calls (w := vZRANGEBYSCORE) kr hav (by simp only [List.length_cons, List.length_nil]; omega) (by decide) (by kernel_rfl) (fun h2 ab av' hx x => zby9 ⟨kr, hs, hx⟩ s9 s8.few.ins hla ht hA x)
theorem sh_ZRANGEBYSCORE : ∀ S, S8 S → S9 S → Short (cZby S now [key, s, u]) := fun S s8 s9 => short_of (fine_zby) (by simp only [cZby, arg3]; exact QL.num fun n => QL.num fun m => QL.kind (fun t ht => QL.one (by have := ht.rs; refine Nat.le_trans (by show (((t.ranks.filter _).map _).map _).length ≤ t.ranks.length; rw [List.length_map, List.length_map]; exact List.length_filter_le _ _) (by omega))) s9)
theorem byR_ZRANGEBYSCORE (hz : ∀ a ∈ [key, s, u], a.size ≤ 300) : ByR9 now (vZRANGEBYSCORE :: [key, s, u]) (fun S => cZby S now [key, s, u]) := by
 intro h kv av k hsl hgx hup hlen hfit s8 s9 hla hav
 refine rdoZ_calls (N := qZRANGEBYSCORE) (A := [key, s, u]) hsl hgx hup (by omega) hfit hav (by simp only [List.length_cons, List.length_nil]; omega) (by decide) hz (by kernel_rfl) rb_ZRANGEBYSCORE (by decide) (by decide) (by decide) (by decide) ?_ ?_ ?_ (fun key => s9.get key now) ?_
 ·intro hh; exact absurd ⟨by simp, by simp⟩ hh
 ·rintro _ _ ⟨j, h1, h2, h3, h4⟩
  have h2 : j < 3 := h2
  rcases (show j = 1 ∨ j = 2 by omega) with rfl | rfl
  ·have h4 : numOf s = none := h4
   simp [cZby, arg3, numbered, h4]
  ·have h4 : numOf u = none := h4
   cases hs : numOf s <;> simp [cZby, arg3, numbered, h4, hs]
 ·intro m1 m2 hall key' hk' hok
  obtain rfl : key = key' := Option.some.inj hk'
  obtain ⟨nn, hn⟩ := hall 1 (by decide) (by simp) (.inr (.inl rfl))
  have hn : numOf s = some nn := hn
  obtain ⟨mm, hm⟩ := hall 2 (by decide) (by simp) (.inr (.inl rfl))
  have hm : numOf u = some mm := hm
  simp only [cZby, arg3, numbered, hn, hm, kindlyR_no hok]
 ·intro h1 xb av' pv lw rv key' hk' m1 m2 hall hok g x
  obtain rfl : key = key' := Option.some.inj hk'
  obtain ⟨nn, hn⟩ := hall 1 (by decide) (by simp) (.inr (.inl rfl))
  have hn : numOf s = some nn := hn
  obtain ⟨mm, hm⟩ := hall 2 (by decide) (by simp) (.inr (.inl rfl))
  have hm : numOf u = some mm := hm
  simp only [cZby, arg3, numbered, hn, hm, kindlyR_ok hok]
  exact rzby_calls hn hm x g
end
end Go.Proofs.YtjnijlnmbjjgpaaGreatDoor
namespace Go.Proofs.YtjnijlnmbjjgpaaGreatDoor
open Go Go.Sx C
section
variable {S : Space} {now kd : Int} {key s u nm : ByteArray} {l : List ByteArray} {f : Thing → Res} {res : Res} {r : Rep} {E : List Eff} {a b : Res}
def vZINCRBY : ByteArray := ⟨#[90, 73, 78, 67, 82, 66, 89]⟩
theorem byP_ZINCRBY (hz : ∀ a ∈ [key, s, nm], a.size ≤ 300) : ByP9 now (vZINCRBY :: [key, s, nm]) (fun S => cZincr S now [key, s, nm]) := by
 intro h kb sb mb c m S av kr hs s8 s9 hla ht hav
 have hA : ∀ a ∈ ([key, s, nm] : List ByteArray), a.size < 281474976710656 := fun a ha => by have := hz a ha; omega
 exact do9_calls (w := vZINCRBY) kr hav (by simp only [List.length_cons, List.length_nil]; omega) (by decide) (by kernel_rfl) (fun h2 ab av' hx x => zincr9 ⟨kr, hs, hx⟩ s9 s8.few.ins hla ht hA x)
theorem sh_ZINCRBY : ∀ S, S8 S → S9 S → Short (cZincr S now [key, s, nm]) := fun S s8 s9 => short_of (fine_zincr s8.few s9) (by simp only [cZincr, arg3]; exact QL.num fun n => QL.kind (fun t ht => QL.add fun z => QL.make (by show (0 : Nat) ≤ _; omega)) s9)
theorem byR_ZINCRBY (hz : ∀ a ∈ [key, s, nm], a.size ≤ 300) : ByR9 now (vZINCRBY :: [key, s, nm]) (fun S => cZincr S now [key, s, nm]) := by
 intro h kv av k hsl hgx hup hlen hfit s8 s9 hla hav
 refine rdoZ_calls (N := qZINCRBY) (A := [key, s, nm]) hsl hgx hup (by omega) hfit hav (by simp only [List.length_cons, List.length_nil]; omega) (by decide) hz (by kernel_rfl) rb_ZINCRBY (by decide) (by decide) (by decide) (by decide) ?_ ?_ ?_ (fun key => s9.get key now) ?_
 ·intro hh; exact absurd ⟨by simp, by simp⟩ hh
 ·rintro _ _ ⟨j, h1, h2, h3, h4⟩
  obtain rfl : j = 1 := by unfold need9 at h3; omega
  have h4 : numOf s = none := h4
  simp [cZincr, arg3, numbered, h4]
 ·intro m1 m2 hall key' hk' hok
  obtain rfl : key = key' := Option.some.inj hk'
  obtain ⟨nn, hn⟩ := hall 1 (by decide) (by simp) (.inr (.inr ⟨rfl, by decide⟩))
  have hn : numOf s = some nn := hn
  show numbered s _ = _
  unfold numbered
  rw [hn]
  exact kindlyR_no hok
 ·intro h1 xb av' pv lw rv key' hk' m1 m2 hall hok g x
  obtain rfl : key = key' := Option.some.inj hk'
  have hl9 := g.t9.rs
  obtain ⟨nn, hn⟩ := hall 1 (by decide) (by simp) (.inr (.inr ⟨rfl, by decide⟩))
  have hn : numOf s = some nn := hn
  have zn := hz nm (by simp)
  have hh := rzincr_calls hn hla x g
  have e : cZincr (k.map RX.pr) now [key, s, nm] = addTo ((scoreF ((getS (k.map RX.pr) key now).getD zeroT).ranks nm).getD 0) nn fun z => .ok (textR ⟨⟨Lib.itoa z⟩⟩, dropsS (k.map RX.pr) key now ++ [rankE key nm z]) := by
   show numbered s _ = _
   rw [show ∀ f : Int → Res, numbered s f = f nn from fun f => by unfold numbered; rw [hn]]
   show kindly _ _ _ _ _ = _
   rw [kindlyR_ok hok]
   unfold addTo
   by_cases ho : okSum ((scoreF ((getS (k.map RX.pr) key now).getD zeroT).ranks nm).getD 0) nn
   ·rw [if_pos ho, if_pos ho]
    refine makes_ok ?_ g.ks (decide_eq_true (by omega))
    split <;> omega
   ·rw [if_neg ho, if_neg ho]
  rw [← e] at hh
  exact hh
end
end Go.Proofs.YtjnijlnmbjjgpaaGreatDoor
namespace Go.Proofs.YtjnijlnmbjjgpaaGreatDoor
open Go Go.Sx C
section
variable {S : Space} {now kd : Int} {key s u nm : ByteArray} {l : List ByteArray} {f : Thing → Res} {res : Res} {r : Rep} {E : List Eff} {a b : Res}
def vZADD : ByteArray := ⟨#[90, 65, 68, 68]⟩
theorem byP_ZADD (hln : l.length ≤ 12) (hz : ∀ a ∈ (key :: l), a.size ≤ 300) : ByP9 now (vZADD :: (key :: l)) (fun S => cZadd S now (key :: l)) := by
 intro h kb sb mb c m S av kr hs s8 s9 hla ht hav
 have hA : ∀ a ∈ (key :: l : List ByteArray), a.size < 281474976710656 := fun a ha => by have := hz a ha; omega
 exact do9_calls (w := vZADD) kr hav (by simp only [List.length_cons]; omega) (by decide) (by kernel_rfl) (fun h2 ab av' hx x => zadd9 ⟨kr, hs, hx⟩ s9 s8.few.ins hla ht hA x)
theorem sh_ZADD (hln : l.length ≤ 12) : ∀ S, S8 S → S9 S → Short (cZadd S now (key :: l)) := fun S s8 s9 => short_of (fine_zadd s8.few s9 (by simp only [List.length_cons]; omega)) (QL.ite (by split; exact QL.bad; exact QL.kind (fun t ht => QL.make (by show (0 : Nat) ≤ _; omega)) s9) QL.bad)
theorem byR_ZADD (hln : l.length ≤ 12) (hz : ∀ a ∈ (key :: l), a.size ≤ 300) : ByR9 now (vZADD :: (key :: l)) (fun S => cZadd S now (key :: l)) := by
 intro h kv av k hsl hgx hup hlen hfit s8 s9 hla hav
 have two : ∀ p ∈ twos l, ∃ q, ∃ h : 2 * q + 1 < l.length, p = (l[2 * q], l[2 * q + 1]) := fun p hp => by
  obtain ⟨q, hq, rfl⟩ := List.mem_iff_getElem.1 hp
  have hh := twos_half (Nat.le_refl l.length)
  have h1 : 2 * q + 1 < l.length := by omega
  have h2 := twos_get h1
  rw [List.getElem?_eq_getElem hq] at h2
  exact ⟨q, h1, Option.some.inj h2⟩
 have sc : (key :: l).length % 2 = 1 → NumsOk 4 (key :: l) → ∃ r, scored (twos l) = some r := fun hodd hall => scored_some fun p hp => by
  obtain ⟨q, hq, rfl⟩ := two p hp
  obtain ⟨m, hm⟩ := hall (2 * q + 1) (by omega) (by simp only [List.length_cons]; omega) (.inl ⟨rfl, by omega⟩)
  rw [List.getElem?_cons_succ, List.getElem?_eq_getElem (by omega)] at hm
  have hm : numOf l[2 * q] = some m := hm
  show (numOf l[2 * q]).isSome = true
  rw [hm]; rfl
 refine rdoZp_calls (N := qZADD) (A := (key :: l)) hsl hgx hup (by omega) hfit hav (by simp only [List.length_cons]; omega) (by decide) hz (by kernel_rfl) rb_ZADD (by decide) rfl ?_ ?_ ?_ ?_ (fun key => s9.get key now) ?_
 ·intro m1 m2 hp
  show (if 2 ≤ l.length ∧ l.length < 65536 ∧ l.length % 2 = 0 then _ else _) = _
  rw [if_neg (fun hh => by simp only [List.length_cons] at hp; omega)]
 ·intro hh
  show (if 2 ≤ l.length ∧ l.length < 65536 ∧ l.length % 2 = 0 then _ else _) = _
  rw [if_neg (fun hc => hh ⟨by simp only [List.length_cons]; omega, by simp only [List.length_cons]; omega⟩)]
 ·rintro m1 m2 hodd ⟨j, h1, h2, h3, h4⟩
  have hp : 2 ≤ l.length ∧ l.length < 65536 ∧ l.length % 2 = 0 := by simp only [List.length_cons] at m1 hodd; omega
  have hj : j % 2 = 1 := by unfold need9 at h3; omega
  obtain ⟨q, rfl⟩ : ∃ q, j = 2 * q + 1 := ⟨j / 2, by omega⟩
  have h2 : 2 * q < l.length := by simp only [List.length_cons] at h2; omega
  rw [List.getElem?_cons_succ, List.getElem?_eq_getElem h2] at h4
  have hm := List.mem_of_getElem? (twos_get (show 2 * q + 1 < l.length by omega))
  have hn := scored_none hm h4
  show (if 2 ≤ l.length ∧ l.length < 65536 ∧ l.length % 2 = 0 then _ else _) = _
  rw [if_pos hp, hn]
 ·intro m1 m2 hodd hall key' hk' hok
  obtain rfl : key = key' := Option.some.inj hk'
  have hp : 2 ≤ l.length ∧ l.length < 65536 ∧ l.length % 2 = 0 := by simp only [List.length_cons] at m1 hodd; omega
  obtain ⟨r, hr⟩ := sc hodd hall
  show (if 2 ≤ l.length ∧ l.length < 65536 ∧ l.length % 2 = 0 then _ else _) = _
  rw [if_pos hp, hr]
  exact kindlyR_no hok
 ·intro h1 xb av' pv lw rv key' hk' m1 m2 hodd hall hok g x
  obtain rfl : key = key' := Option.some.inj hk'
  have hp : 2 ≤ l.length ∧ l.length < 65536 ∧ l.length % 2 = 0 := by simp only [List.length_cons] at m1 hodd; omega
  obtain ⟨r, hr⟩ := sc hodd hall
  have hl9 := g.t9.rs
  have e : cZadd (k.map RX.pr) now (key :: l) = .ok (numR (newL (thereR ((getS (k.map RX.pr) key now).getD zeroT).ranks) [] (r.map Prod.snd)).length, dropsS (k.map RX.pr) key now ++ r.map fun p => rankE key p.2 p.1) := by
   show (if 2 ≤ l.length ∧ l.length < 65536 ∧ l.length % 2 = 0 then _ else _) = _
   rw [if_pos hp, hr]
   show kindly _ _ _ _ _ = _
   rw [kindlyR_ok hok]
   have h3 := newL_len (th := thereR ((getS (k.map RX.pr) key now).getD zeroT).ranks) (l := r.map Prod.snd) (pre := [])
   have h4 := twos_half (Nat.le_refl l.length)
   have h5 := scored_len hr
   rw [List.length_map] at h3
   refine makes_ok (by omega) g.ks (all_small fun s hs => ?_)
   obtain ⟨p, hp2, rfl⟩ := List.mem_map.1 hs
   obtain ⟨q, hq, rfl⟩ := List.mem_iff_getElem.1 hp2
   have h6 : 2 * q + 1 < l.length := by omega
   have h7 := scored_snd hr h6
   rw [List.getElem?_map, List.getElem?_eq_getElem hq] at h7
   have h7 : r[q].2 = l[2 * q + 1] := Option.some.inj h7
   rw [h7]
   exact hz _ (List.mem_cons_of_mem _ (List.getElem_mem _))
  have hh := rzadd_calls hr x g hp.1 hp.2.2
  rw [← e] at hh
  exact hh
end
end Go.Proofs.YtjnijlnmbjjgpaaGreatDoor
namespace Go.Proofs.YtjnijlnmbjjgpaaGreatDoor
open Go Go.Sx C
theorem large9_calls {h : Heap} {vs : List Value} {t : Thing} (x : TH h vs t) (f : Fits t) (s : Sized t) :
  CallsH Tryz.prog 30 [.agg ⟨vs⟩] h (Ret fun r h' => (∃ b, r = .bool b ∧ (b = false → Small t)) ∧ Chg [] h h') := by
 have fp := f.p; have fl := f.l; have fr := f.r
 refine f30_calls (by simp) ?_
 intro b1 h1 g1
 have B1 : Blk h1 b1 vs := g1.blk
 have hc := g1.chg
 obtain ⟨pv, lv, rv, rfl, hp, hl, hr⟩ := x.ext hc
 obtain ⟨pa, pc, rfl, _⟩ := hp.form
 obtain ⟨la, lc, rfl, _⟩ := hl.form
 obtain ⟨ra, rc, rfl, _⟩ := hr.form
 have yes : Ret (fun r h' => (∃ b, r = .bool b ∧ (b = false → Small t)) ∧ Chg [] h h') (.returned (retV [Value.bool true])) h1 := ⟨⟨true, rfl, fun h => by cases h⟩, hc⟩
 refine Ei _ (Ai (cell_blk B1 rfl) ?_)
 refine Ei _ (Ai (cell_blk B1 rfl) ?_)
 refine Ai rfl (Ai (fun _ => yes) (fun n1 => ?_))
 refine Ei _ (Ai (cell_blk B1 rfl) ?_)
 refine Ai rfl (Ai (fun _ => yes) (fun n2 => ?_))
 refine Ei _ (Ai (cell_blk B1 rfl) ?_)
 refine Ai rfl (Ai (fun _ => yes) (fun n3 => ?_))
 refine Ai rfl (Ai (fun _ => yes) (fun n4 => ?_))
 have ht := s.text
 -- the pairs
 refine loop_intro (fun i : Nat × Int => [(1, .pointer (some ⟨b1, 0, none⟩)), (3, .int .i64 i.2), (4, .int .i64 i.1)]) (fun i h' => i.1 ≤ t.pairs.length ∧ h' = h1 ∧ 0 ≤ i.2 ∧ i.2 ≤ 2000 ∧ ∀ x ∈ t.pairs.take i.1, x.name.size ≤ 2000 ∧ x.text.size ≤ 2000) (fun i => t.pairs.length - i.1) (0, t.text.size)
  ⟨rfl, rfl, rfl, trivial⟩ ⟨Nat.zero_le _, rfl, by simp only; omega, by simp only; omega, by simp⟩ ?_
 rintro ⟨k, n⟩ h3 ⟨hk, h32, hn0, hn1, hps⟩
 have h32 := h32.symm
 subst h32
 simp only at hk hn0 hn1 hps
 refine Ei _ (Ai (cell_blk B1 rfl) ?_)
 refine Ai rfl (Ai (fun hlt => ?_) (fun hlt => ?_))
 ·have hkk : k < t.pairs.length := by omega
  obtain ⟨b3, o, rfl⟩ := hp.addr (by omega)
  have hcs := hp.cells encP_len (i := k) (x := t.pairs[k]) (by simp [hkk])
  obtain ⟨z1, z2⟩ := s.ps t.pairs[k] (List.getElem_mem hkk)
  refine Ei _ (Ai (cell_blk B1 rfl) ?_)
  refine Ai (by omega) (Ai (by omega) (Ei _ (Ai (hcs 0 _ rfl) ?_)))
  refine Ai rfl (fun y hy => ?_)
  have hy := add_in hy (by omega) (by omega)
  refine Ei _ (Ai (cell_blk B1 rfl) ?_)
  refine Ai (by omega) (Ai (by omega) (Ei _ (Ai (hcs 1 _ rfl) ?_)))
  refine Ai rfl (fun w hw => ?_)
  have hw := add_in hw (by omega) (by omega)
  refine Ai rfl (Ai (fun _ => yes) (fun n5 => ?_))
  refine Ai rfl (fun z hz => ?_)
  have hz := add_in hz (by omega) (by omega)
  subst hz
  refine Ai rfl (Ei (k + 1, w) (Ai ?_ (Ai ?_ ?_)))
  ·exact ⟨rfl, rfl, rfl, trivial⟩
  ·refine ⟨by simp only; omega, rfl, by simp only; omega, by simp only; omega, fun q hq => ?_⟩
   simp only at hq
   rw [take_snoc t.pairs k hkk] at hq
   rcases List.mem_append.1 hq with hq | hq
   ·exact hps q hq
   ·have : q = t.pairs[k] := by simpa using hq
    rw [this]; omega
  ·simp only; omega
 have hkl : k = t.pairs.length := by omega
 rw [hkl, List.take_length] at hps
 clear hlt hkl hk
 -- the list
 refine loop_intro (fun i : Nat × Int => [(1, .pointer (some ⟨b1, 0, none⟩)), (3, .int .i64 i.2), (5, .int .i64 i.1)]) (fun i h' => i.1 ≤ t.list.length ∧ h' = h1 ∧ 0 ≤ i.2 ∧ i.2 ≤ 2000 ∧ ∀ x ∈ t.list.take i.1, x.size ≤ 2000) (fun i => t.list.length - i.1) (0, n)
  ⟨rfl, rfl, rfl, trivial⟩ ⟨Nat.zero_le _, rfl, by simp only; omega, by simp only; omega, by simp⟩ ?_
 clear hn0 hn1
 rintro ⟨k, n⟩ h3 ⟨hk, h32, hn0, hn1, hls⟩
 have h32 := h32.symm
 subst h32
 simp only at hk hn0 hn1 hls
 refine Ei _ (Ai (cell_blk B1 rfl) ?_)
 refine Ai rfl (Ai (fun hlt => ?_) (fun hlt => ?_))
 ·have hkk : k < t.list.length := by omega
  obtain ⟨b3, o, rfl⟩ := hl.addr (by omega)
  have hcs := hl.cells encS_len (i := k) (x := t.list[k]) (by simp [hkk])
  have z1 := s.ls t.list[k] (List.getElem_mem hkk)
  refine Ei _ (Ai (cell_blk B1 rfl) ?_)
  refine Ai (by omega) (Ai (by omega) (Ei _ (Ai (hcs 0 _ rfl) ?_)))
  refine Ai rfl (fun w hw => ?_)
  have hw := add_in hw (by omega) (by omega)
  refine Ai rfl (Ai (fun _ => yes) (fun n5 => ?_))
  refine Ai rfl (fun z hz => ?_)
  have hz := add_in hz (by omega) (by omega)
  subst hz
  refine Ai rfl (Ei (k + 1, w) (Ai ?_ (Ai ?_ ?_)))
  ·exact ⟨rfl, rfl, rfl, trivial⟩
  ·refine ⟨by simp only; omega, rfl, by simp only; omega, by simp only; omega, fun q hq => ?_⟩
   simp only at hq
   rw [take_snoc t.list k hkk] at hq
   rcases List.mem_append.1 hq with hq | hq
   ·exact hls q hq
   ·have : q = t.list[k] := by simpa using hq
    rw [this]; omega
  ·simp only; omega
 have hkl : k = t.list.length := by omega
 rw [hkl, List.take_length] at hls
 clear hlt hkl hk
 -- the ranks
 refine loop_intro (fun i : Nat × Int => [(1, .pointer (some ⟨b1, 0, none⟩)), (3, .int .i64 i.2), (6, .int .i64 i.1)]) (fun i h' => i.1 ≤ t.ranks.length ∧ h' = h1 ∧ 0 ≤ i.2 ∧ i.2 ≤ 2000 ∧ ∀ x ∈ t.ranks.take i.1, x.name.size ≤ 2000) (fun i => t.ranks.length - i.1) (0, n)
  ⟨rfl, rfl, rfl, trivial⟩ ⟨Nat.zero_le _, rfl, by simp only; omega, by simp only; omega, by simp⟩ ?_
 clear hn0 hn1
 rintro ⟨k, n⟩ h3 ⟨hk, h32, hn0, hn1, hrs⟩
 have h32 := h32.symm
 subst h32
 simp only at hk hn0 hn1 hrs
 refine Ei _ (Ai (cell_blk B1 rfl) ?_)
 refine Ai rfl (Ai (fun hlt => ?_) (fun hlt => ?_))
 ·have hkk : k < t.ranks.length := by omega
  obtain ⟨b3, o, rfl⟩ := hr.addr (by omega)
  have hcs := hr.cells encR_len (i := k) (x := t.ranks[k]) (by simp [hkk])
  have z1 := s.rs t.ranks[k] (List.getElem_mem hkk)
  refine Ei _ (Ai (cell_blk B1 rfl) ?_)
  refine Ai (by omega) (Ai (by omega) (Ei _ (Ai (hcs 0 _ rfl) ?_)))
  refine Ai rfl (fun w hw => ?_)
  have hw := add_in hw (by omega) (by omega)
  refine Ai rfl (Ai (fun _ => yes) (fun n5 => ?_))
  refine Ai rfl (fun z hz => ?_)
  have hz := add_in hz (by omega) (by omega)
  subst hz
  refine Ai rfl (Ei (k + 1, w) (Ai ?_ (Ai ?_ ?_)))
  ·exact ⟨rfl, rfl, rfl, trivial⟩
  ·refine ⟨by simp only; omega, rfl, by simp only; omega, by simp only; omega, fun q hq => ?_⟩
   simp only at hq
   rw [take_snoc t.ranks k hkk] at hq
   rcases List.mem_append.1 hq with hq | hq
   ·exact hrs q hq
   ·have : q = t.ranks[k] := by simpa using hq
    rw [this]; omega
  ·simp only; omega
 have hkl : k = t.ranks.length := by omega
 rw [hkl, List.take_length] at hrs
 exact ⟨⟨false, rfl, fun _ => ⟨by omega, by omega, by omega, by omega, hps, hls, hrs⟩⟩, hc⟩
theorem vast9_calls {h : Heap} {v u : Value} {l : List RX} {d : List ByteArray} (hv : SL encX h v l) (hu : SL encS h u d) (g : GX h l) (f : XFit l) (fd : SFit d) :
  CallsH Tryz.prog 12 [v, u] h (Ret fun r h' => (∃ b, r = .bool b ∧ (b = false → NVast l ∧ SSmall d)) ∧ Chg [] h h') := by
 have fl := f.len
 have fdl := fd.len
 obtain ⟨a, c, rfl, hlc⟩ := hv.form
 obtain ⟨a', c', rfl, hlc'⟩ := hu.form
 have yes : ∀ h', Chg [] h h' → Ret (fun r h' => (∃ b, r = .bool b ∧ (b = false → NVast l ∧ SSmall d)) ∧ Chg [] h h') (.returned (retV [Value.bool true])) h' := fun h' hc => ⟨⟨true, rfl, fun h => by cases h⟩, hc⟩
 refine f12_calls (by simp) ?_
 refine Ai rfl (Ai (fun _ => yes h (Chg.refl h)) (fun n1 => ?_))
 refine Ai rfl (Ai (fun _ => yes h (Chg.refl h)) (fun n2 => ?_))
 refine loop_intro (fun k : Nat => [(0, .slice a l.length c), (1, .slice a' d.length c'), (5, .int .i64 k)]) (fun k h' => k ≤ l.length ∧ Chg [] h h' ∧ ∀ x ∈ l.take k, x.key.size ≤ 300 ∧ Small x.thing) (fun k => l.length - k) 0
  ⟨rfl, rfl, rfl, trivial⟩ ⟨Nat.zero_le _, Chg.refl h, by simp⟩ ?_
 rintro k h1 ⟨hk, hc1, hall⟩
 have hv1 := hv.ext hc1
 refine Ai rfl (Ai (fun ht => ?_) (fun ht => ?_))
 ·have hlt : k < l.length := by omega
  obtain ⟨b, o, rfl⟩ := hv1.addr (by omega)
  have hcs := hv1.cells encX_len (i := k) (x := l[k]) (by simp [hlt])
  have hmem : l[k] ∈ l := List.getElem_mem hlt
  have hkz := f.keys _ hmem
  refine Ai (by omega) (Ai (by omega) (Ei _ (Ai (hcs 0 _ rfl) ?_)))
  refine Ai rfl (Ai (fun _ => yes h1 hc1) (fun n3 => ?_))
  refine Ai (by omega) (Ai (by omega) (Ei l[k].vs (Ai l[k].len (Ai (cells_vs hcs) ?_))))
  refine call_ret (large9_calls ((g.ext hc1) _ hmem) (f.fits _ hmem) (f.sized _ hmem)) ?_
  rintro _ h2 ⟨⟨b2, rfl, hsm⟩, hc2⟩
  cases b2 with
  |true => exact yes h2 (hc1.nil hc2)
  |false =>
   refine Ai rfl (fun z hz => ?_)
   have hz := add_in hz (by omega) (by omega)
   subst hz
   refine Ai rfl (Ei (k + 1) (Ai ?_ (Ai ?_ ?_)))
   ·exact ⟨rfl, rfl, rfl, trivial⟩
   ·refine ⟨by omega, hc1.nil hc2, fun x hx => ?_⟩
    rw [take_snoc l k hlt, List.mem_append, List.mem_singleton] at hx
    rcases hx with hx | rfl
    ·exact hall x hx
    ·exact ⟨by omega, hsm rfl⟩
   ·omega
 have hkl : k = l.length := by omega
 rw [hkl, List.take_length] at hall
 clear hkl ht hk hv1
 have nv : NVast l := ⟨by omega, fun x hx => (hall x hx).1, fun x hx => (hall x hx).2⟩
 refine loop_intro (fun k : Nat => [(1, .slice a' d.length c'), (6, .int .i64 k)]) (fun k h' => k ≤ d.length ∧ Chg [] h h' ∧ ∀ e ∈ d.take k, e.size ≤ 300) (fun k => d.length - k) 0
  ⟨rfl, rfl, trivial⟩ ⟨Nat.zero_le _, hc1, by simp⟩ ?_
 clear k hc1
 rintro k h1 ⟨hk, hc1, hall⟩
 have hu1 := hu.ext hc1
 refine Ai rfl (Ai (fun ht => ?_) (fun ht => ?_))
 ·have hlt : k < d.length := by omega
  obtain ⟨b, o, rfl⟩ := hu1.addr (by omega)
  have hcs := hu1.cells encS_len (i := k) (x := d[k]) (by simp [hlt])
  have z1 := fd.each _ (List.getElem_mem hlt)
  refine Ai (by omega) (Ai (by omega) (Ei _ (Ai (hcs 0 _ rfl) ?_)))
  refine Ai rfl (Ai (fun _ => yes h1 hc1) (fun n3 => ?_))
  refine Ai rfl (fun z hz => ?_)
  have hz := add_in hz (by omega) (by omega)
  subst hz
  refine Ai rfl (Ei (k + 1) (Ai ?_ (Ai ?_ ?_)))
  ·exact ⟨rfl, rfl, trivial⟩
  ·refine ⟨by omega, hc1, fun x hx => ?_⟩
   rw [take_snoc d k hlt, List.mem_append, List.mem_singleton] at hx
   rcases hx with hx | rfl
   ·exact hall x hx
   ·omega
  ·omega
 have hkl : k = d.length := by omega
 rw [hkl, List.take_length] at hall
 exact ⟨⟨false, rfl, fun _ => ⟨nv, ⟨by omega, hall⟩⟩⟩, hc1⟩
theorem known9_ret {h : Heap} : CallsH Tryz.prog 13 [] h (Ret fun r h' => r = .bool true ∧ Chg [] h h') := by
 refine f13_calls (by simp) ?_
 refine call_ret New_calls ?_
 rintro _ h1 ⟨kb, sb, mb, rfl, ks, hm, _, _, _, c1⟩
 have kr : KR h1 kb sb mb 0 [] := ⟨ks, hm, by simp, by simp, by simp, by simp, by simp, by simp⟩
 have hs : Sorted [] [] := ⟨List.Pairwise.nil, by simp⟩
 intro b2 h2 g2
 have sa : SL encS h2 (.slice (some ⟨b2, 0, none⟩) 3 3) [⟨#[115, 97, 100, 100]⟩, ⟨#[97]⟩, ⟨#[109]⟩] := by
  refine ⟨_, 3, rfl, Nat.le_refl _, ?_⟩
  exact cells_blk g2.blk
 have s9 : S9 [] := fun p hp => (nomatch hp)
 have hin : InS [] := fun p hp => (nomatch hp)
 refine call_ret (do9_calls (now := 0) (kr.ext g2.chg) sa (by simp) (by decide) (by kernel_rfl) fun h3 ab av' hx x => sadd9 ⟨kr.ext g2.chg, hs, hx⟩ s9 hin (fun s hs => ?_) x) ?_
 ·simp at hs
  rcases hs with rfl | rfl <;> decide
 rintro r h3 ⟨c3, hr⟩
 have e : cSadd [] 0 [⟨#[97]⟩, ⟨#[109]⟩] = .ok (rep 3 1 noText, [addE ⟨#[97]⟩ ⟨#[109]⟩]) := by kernel_rfl
 rw [e] at hr
 obtain ⟨vq, lv, rfl, ⟨ra, rn, rc, rfl, sl, fr⟩, hsl, hfr⟩ := hr
 obtain ⟨la, lc, rfl, _⟩ := hsl.form
 obtain ⟨lb, lo, rfl⟩ := hsl.addr (by simp)
 intro b9 h4 g4
 have w := (St.start h3).new g4
 refine w.st1 0 rfl rfl rfl rfl fun h5 w => ?_
 have hcs := (hsl.ext w.chg).cells encD_len (i := 0) (x := addE ⟨#[97]⟩ ⟨#[109]⟩) rfl
 refine w.ld1 0 rfl rfl ?_
 refine Ai rfl (Ai (fun _ => ?_) (fun hne => absurd rfl hne))
 refine w.ld1 0 rfl rfl ?_
 refine Ai rfl (Ai (fun _ => ?_) (fun hne => absurd rfl hne))
 refine Ai rfl (Ai (fun _ => ?_) (fun hne => absurd rfl hne))
 refine Ai (by decide) (Ai (by simp) (Ei _ (Ai (by simpa using hcs 0 _ rfl) ?_)))
 refine Ai rfl (Ai (fun _ => ?_) (fun hne => absurd rfl hne))
 refine Ai (by decide) (Ai (by simp) (Ei _ (Ai (by simpa using hcs 2 _ rfl) ?_)))
 refine Ai (fun _ => ?_) (fun hne => absurd rfl hne)
 exact ⟨rfl, ((c1.nil g2.chg).nil c3).nil w.chg⟩
theorem kn9 {h h2 : Heap} {K : Value → Heap → Prop} {Qp : List PanicEntry → Heap → Prop} (c2 : Chg [] h h2) (hK : ∀ h', Chg [] h h' → K (.bool true) h') : CallsH Tryz.prog 13 [] h2 (after K Qp) :=
 call_ret known9_ret fun v h' hv => by rw [hv.1]; exact hK h' (c2.nil hv.2)
theorem with9_calls {h : Heap} {av nv : Value} {A N : List ByteArray} (ho : OL encS 1 h av A) (hs : SL encS h nv N) (hl : A.length + N.length ≤ 1000) : CallsH Tryz.prog 15 [nv, av] h (Ret fun r h' => SL encS h' r (A ++ N) ∧ Chg (vblk av) h h') := by
 obtain ⟨a, c, rfl, _⟩ := ho.form
 obtain ⟨a', c', rfl, _⟩ := hs.form
 refine f15_calls (by simp) ?_
 refine app_own encS_len encS_one rfl ho hs (by omega) fun v' h' ho' hc hb => ?_
 exact ⟨ho'.sl, hc⟩
theorem avast9_calls {h : Heap} {nv : Value} {N : List ByteArray} {s u : ByteArray} (hs : SL encS h nv N) (fd : SFit N) (z1 : s.size < 4611686018427387904) (z2 : u.size < 4611686018427387904) : CallsH Tryz.prog 11 [.agg ⟨[nv, .string s, .string u]⟩] h
  (Ret fun r h' => (∃ b, r = .bool b ∧ (b = false → N.length ≤ 6 ∧ (∀ x ∈ N, x.size ≤ 300) ∧ s.size ≤ 300 ∧ u.size ≤ 300)) ∧ Chg [] h h') := by
 obtain ⟨a, c, rfl, _⟩ := hs.form
 have gn : GX h [] := fun x hx => (nomatch hx)
 have fx : XFit [] := ⟨by decide, fun x hx => (nomatch hx), fun x hx => (nomatch hx), fun x hx => (nomatch hx)⟩
 have fl := fd.len
 refine f11_calls (by simp) ?_
 intro b1 h1 g1
 have w := (St.start h).new g1
 refine w.ld1 0 rfl rfl ?_
 refine Ai rfl (Ai (fun hgt => ?_) (fun hle => ?_))
 ·exact ⟨⟨true, rfl, fun hb => by cases hb⟩, w.chg⟩
 refine w.ld1 0 rfl rfl ?_
 refine call_ret (vast9_calls SL.nil (hs.ext w.chg) (gn.ext w.chg) fx fd) ?_
 rintro _ h2 ⟨⟨b, rfl, hb⟩, c2⟩
 have w := w.ext c2
 cases b with
 |true => exact ⟨⟨true, rfl, fun hb => by cases hb⟩, w.chg⟩
 |false =>
  refine w.ld1 0 rfl rfl ?_
  refine w.ld1 0 rfl rfl ?_
  intro b3 h3 g3
  have w := w.ext g3.chg
  refine call_ret (vast9_calls SL.nil (d := [s, u]) ⟨_, 2, rfl, Nat.le_refl _, by exact cells_blk g3.blk⟩ (gn.ext w.chg) fx ⟨by simp, fun e he => by simp at he; rcases he with rfl | rfl <;> assumption⟩) ?_
  rintro _ h4 ⟨⟨b', rfl, hb'⟩, c4⟩
  have w := w.ext c4
  cases b' with
  |true => exact ⟨⟨true, rfl, fun hb => by cases hb⟩, w.chg⟩
  |false => exact ⟨⟨false, rfl, fun _ => ⟨by omega, (hb rfl).2.each, (hb' rfl).2.each s (by simp), (hb' rfl).2.each u (by simp)⟩⟩, w.chg⟩
abbrev v7 (tx : Thing) (pv lv rv : Value) : List Value := [.int .i64 tx.kind, .string tx.text, pv, lv, rv, .bool tx.hasU, .int .i64 tx.unt]
abbrev mkX (kx : ByteArray) (tx : Thing) (pv lv rv : Value) (ox : ∀ u ∈ v7 tx pv lv rv, u.oneCell' = true) : RX := ⟨kx, tx, v7 tx pv lv rv, rfl, ox⟩
set_option maxHeartbeats 2000000 in
theorem CollsRanks_go {h : Heap} {kx : ByteArray} {tx : Thing} {pv lv rv : Value} {ox : ∀ u ∈ v7 tx pv lv rv, u.oneCell' = true} {nv : Value} {N : List ByteArray} {s u : ByteArray} {now : Int} (hx : TH h (v7 tx pv lv rv) tx) (hxf : XFit [(mkX kx tx pv lv rv ox)]) (hun : In64 tx.unt) (hri : ∀ r ∈ tx.ranks, In64 r.score) (hs : SL encS h nv N) (fd : SFit N) (z1 : s.size < 4611686018427387904) (z2 : u.size < 4611686018427387904) (hla : LaidN h) (ht : K5.TabH h) :
  CallsH Tryz.prog 6 [.agg ⟨encX (mkX kx tx pv lv rv ox)⟩, .int .i64 now, .agg ⟨[nv, .string s, .string u]⟩] h (Ret fun r h' => r = .bool true ∧ Chg [] h h') := by
 obtain ⟨na, nc, rfl, _⟩ := hs.form
 have gX : GX h [(mkX kx tx pv lv rv ox)] := fun y hy => by rw [List.mem_singleton.1 hy]; exact hx
 have unX : ∀ y ∈ [(mkX kx tx pv lv rv ox)], In64 y.thing.unt := fun y hy => by rw [List.mem_singleton.1 hy]; exact hun
 have riX : ∀ y ∈ [(mkX kx tx pv lv rv ox)], ∀ r ∈ y.thing.ranks, In64 r.score := fun y hy => by rw [List.mem_singleton.1 hy]; exact hri
 refine f6_calls (by simp) ?_
 intro b3 h1 g1
 have w : St [] h h1 [.b b3 (encX (mkX kx tx pv lv rv ox))] := (St.start h).new g1
 intro b5 h2 g2
 have w := w.new g2
 refine w.ldw 1 rfl (encX_len (mkX kx tx pv lv rv ox)) ?_
 intro b7 h3 g3
 have w : St [] h h3 [.b b7 (encX (mkX kx tx pv lv rv ox)), .b b5 [.slice na N.length nc, .string s, .string u], .b b3 (encX (mkX kx tx pv lv rv ox))] := w.new g3
 refine w.ldw 1 rfl rfl ?_
 refine call_ret (avast9_calls (hs.ext w.chg) fd z1 z2) ?_
 rintro _ h4 ⟨⟨b, rfl, hb⟩, c4⟩
 have w := w.ext c4
 cases b with
 |true => exact kn9 w.chg fun h' c => Ai rfl c
 |false =>
  obtain ⟨n6, n300, zs, zu⟩ := hb rfl
  refine call_ret (vast9_calls (SL.one encX_len (show Blk h4 b7 (encX (mkX kx tx pv lv rv ox)) from w.get 0 rfl)) SL.nil (gX.ext w.chg) hxf ⟨by decide, fun e he => (nomatch he)⟩) ?_
  rintro _ h5 ⟨⟨b', rfl, hb'⟩, c5⟩
  have w := w.ext c5
  cases b' with
  |true => exact kn9 w.chg fun h' c => Ai rfl c
  |false =>
   obtain ⟨nv, _⟩ := hb' rfl
   have zk : kx.size ≤ 300 := nv.keys (mkX kx tx pv lv rv ox) (by simp)
   refine w.ld1 1 rfl rfl ?_
   refine Ai rfl (Ai (fun hlt => ?_) (fun hge => ?_))
   ·exact kn9 w.chg fun h' c => Ai rfl c
   have hpos : 0 < N.length := by omega
   obtain ⟨nb, no, rfl⟩ := hs.addr hpos
   obtain ⟨n0, hn0⟩ : ∃ n0, N[0]? = some n0 := ⟨_, List.getElem?_eq_getElem hpos⟩
   have zn : n0.size ≤ 300 := n300 n0 (List.mem_of_getElem? hn0)
   have w := w.empty (enc := encS) (size := 1)
   refine loop_intro (fun q : Nat × Value => [(1, .int .i64 now), (3, ptr b3), (5, ptr b5), (7, .slice (some ⟨b7, 0, none⟩) 1 1), (8, q.2), (9, .int .i64 q.1)])
    (fun q h' => q.1 ≤ N.length ∧ ∃ P : List ByteArray, St [] h h' [.o encS 1 q.2 P, .b b7 (encX (mkX kx tx pv lv rv ox)), .b b5 [.slice (some ⟨nb, no, none⟩) N.length nc, .string s, .string u], .b b3 (encX (mkX kx tx pv lv rv ox))] ∧ P.length ≤ 2 * q.1 ∧ ∀ a ∈ P, a.size ≤ 300)
    (fun q => N.length - q.1) (0, .slice none 0 0) ⟨rfl, rfl, rfl, rfl, rfl, rfl, trivial⟩ ⟨Nat.zero_le _, [], w, Nat.le_refl _, fun a ha => (nomatch ha)⟩ ?_
   rintro ⟨q, v⟩ hL ⟨hq, Pl, w, hln, zP⟩
   have hq : q ≤ N.length := hq
   have hln : Pl.length ≤ 2 * q := hln
   have w : St [] h hL [.o encS 1 v Pl, .b b7 (encX (mkX kx tx pv lv rv ox)), .b b5 [.slice (some ⟨nb, no, none⟩) N.length nc, .string s, .string u], .b b3 (encX (mkX kx tx pv lv rv ox))] := w
   obtain ⟨a4, c4', rfl, _⟩ := (show OL encS 1 hL v Pl from w.get 0 rfl).sl.form
   refine w.ld1 2 rfl rfl ?_
   refine Ai rfl (Ai (fun hlt => ?_) (fun hge2 => ?_))
   ·have hlt : q < N.length := by omega
    have zq := n300 N[q] (List.getElem_mem hlt)
    refine w.ld1 2 rfl rfl ?_
    refine Ai rfl (Ai (by decide) (fun z hz' => ?_))
    refine Ai rfl (Ai (fun q1 => ?_) (fun q1 => ?_))
    ·refine w.ld1 2 rfl rfl ?_
     refine w.ld1 2 rfl rfl ?_
     refine sl_ix (hs.ext w.chg) q rfl (List.getElem?_eq_getElem hlt) ?_
     intro b9 h8 g8
     have w := w.new g8
     have s2 : SL encS h8 (.slice (some ⟨b9, 0, none⟩) 2 2) [u, N[q]] := ⟨_, 2, rfl, Nat.le_refl _, by exact cells_blk g8.blk⟩
     refine w.app 1 rfl encS_len encS_one rfl s2 (by simp only [List.length_cons, List.length_nil]; omega) fun v' h9 w => ?_
     have w := w.pick [1, 2, 3, 4] (by decide)
     refine Ai rfl (fun z hz => ?_)
     have hz := add_in hz (by omega) (by omega)
     subst hz
     exact Ai rfl (Ei (q + 1, _) (Ai ⟨rfl, rfl, rfl, rfl, rfl, rfl, trivial⟩ (Ai ⟨hlt, Pl ++ [u, N[q]], w, by simp only [List.length_append, List.length_cons, List.length_nil]; omega, fun a ha => by
      rcases List.mem_append.1 ha with ha | ha
      ·exact zP a ha
      ·simp only [List.mem_cons, List.not_mem_nil, or_false] at ha
       rcases ha with rfl | rfl <;> assumption⟩ (by simp only; omega))))
    ·refine w.ld1 2 rfl rfl ?_
     refine sl_ix (hs.ext w.chg) q rfl (List.getElem?_eq_getElem hlt) ?_
     intro b9 h8 g8
     have w := w.new g8
     have s2 : SL encS h8 (.slice (some ⟨b9, 0, none⟩) 2 2) [s, N[q]] := ⟨_, 2, rfl, Nat.le_refl _, by exact cells_blk g8.blk⟩
     refine w.app 1 rfl encS_len encS_one rfl s2 (by simp only [List.length_cons, List.length_nil]; omega) fun v' h9 w => ?_
     have w := w.pick [1, 2, 3, 4] (by decide)
     refine Ai rfl (fun z hz => ?_)
     have hz := add_in hz (by omega) (by omega)
     subst hz
     exact Ai rfl (Ei (q + 1, _) (Ai ⟨rfl, rfl, rfl, rfl, rfl, rfl, trivial⟩ (Ai ⟨hlt, Pl ++ [s, N[q]], w, by simp only [List.length_append, List.length_cons, List.length_nil]; omega, fun a ha => by
      rcases List.mem_append.1 ha with ha | ha
      ·exact zP a ha
      ·simp only [List.mem_cons, List.not_mem_nil, or_false] at ha
       rcases ha with rfl | rfl <;> assumption⟩ (by simp only; omega))))
   have sPl := (show OL encS 1 hL _ Pl from w.get 0 rfl).sl
   have zPl : ∀ a ∈ kx :: Pl, a.size ≤ 300 := fun a ha => by
    rcases List.mem_cons.1 ha with rfl | ha
    ·exact zk
    ·exact zP a ha
   have hvL : SL encX hL (.slice (some ⟨b7, 0, none⟩) 1 1) [(mkX kx tx pv lv rv ox)] := SL.one encX_len (show Blk hL b7 (encX (mkX kx tx pv lv rv ox)) from w.get 1 rfl)
   have w := w.pick [1, 2, 3] (by decide)
   have cL : Chg [] hL hL := Chg.refl _
   have hz9 : ∀ a ∈ kx :: N, a.size ≤ 300 := fun a ha => by
    rcases List.mem_cons.1 ha with rfl | ha
    ·exact zk
    ·exact n300 a ha
   have w0 := w
   -- ZADD
   refine w.ld1 2 rfl (rfl : (encX (mkX kx tx pv lv rv ox))[0]? = some (.string kx)) ?_
   intro b11 h11 g11
   have w := w.ext g11.chg
   refine call_ret (with9_calls (A := [vZADD, kx]) (N := Pl) (OL.mk (rest := []) rfl (Nat.le_refl _) (by exact g11.blk) rfl) (sPl.ext g11.chg) (by simp only [List.length_cons, List.length_nil]; omega)) ?_
   rintro rv12 h12 ⟨sa12, c12⟩
   have i11 := g11.id
   have d12 : Chg [] hL h12 := g11.chg.fresh c12 (fun k hk => by have hk : k = b11 := (by simpa [vblk, ablk] using hk); omega)
   have c12' := cL.nil d12
   have w := w0.ext d12
   refine call_ret (does9_calls (AA := vZADD :: kx :: Pl) (hvL.ext c12') (gX.ext w.chg) nv unX riX (hla.ext w.chg) (tab9 ht w.chg) sa12 (byP_ZADD (by omega) zPl) (byR_ZADD (by omega) zPl) (sh_ZADD (by omega))) ?_
   rintro _ h13 ⟨rfl, c13⟩
   have w := w.ext c13
   have w0 := w
   have c13' := c12'.nil c13
   -- ZREM
   refine w.ld1 1 rfl rfl ?_
   refine w.ld1 2 rfl (rfl : (encX (mkX kx tx pv lv rv ox))[0]? = some (.string kx)) ?_
   intro b14 h14 g14
   have w := w.ext g14.chg
   refine call_ret (with9_calls (A := [vZREM, kx]) (N := N) (OL.mk (rest := []) rfl (Nat.le_refl _) (by exact g14.blk) rfl) (hs.ext w.chg) (by simp only [List.length_cons, List.length_nil]; omega)) ?_
   rintro rv15 h15 ⟨sa15, c15⟩
   have i14 := g14.id
   have d15 : Chg [] h13 h15 := g14.chg.fresh c15 (fun k hk => by have hk : k = b14 := (by simpa [vblk, ablk] using hk); omega)
   have c15' := c13'.nil d15
   have w := w0.ext d15
   refine call_ret (does9_calls (AA := vZREM :: kx :: N) (hvL.ext c15') (gX.ext w.chg) nv unX riX (hla.ext w.chg) (tab9 ht w.chg) sa15 (byP_ZREM (by omega) hz9) (byR_ZREM (by omega) hz9) (sh_ZREM (by omega) hz9)) ?_
   rintro _ h16 ⟨rfl, c16⟩
   have w := w.ext c16
   have w0 := w
   have c16' := c15'.nil c16
   -- ZSCORE
   refine w.ld1 2 rfl (rfl : (encX (mkX kx tx pv lv rv ox))[0]? = some (.string kx)) ?_
   refine w.ld1 1 rfl rfl ?_
   refine sl_ix (hs.ext w.chg) 0 rfl hn0 ?_
   intro b17 h17 g17
   have c17' := c16'.nil g17.chg
   have w := w.ext g17.chg
   refine call_ret (does9_calls (AA := [vZSCORE, kx, n0]) (hvL.ext c17') (gX.ext w.chg) nv unX riX (hla.ext w.chg) (tab9 ht w.chg) (show SL encS h17 (.slice (some ⟨b17, 0, none⟩) 3 3) [vZSCORE, kx, n0] from ⟨_, 3, rfl, Nat.le_refl _, by exact cells_blk g17.blk⟩) (byP_ZSCORE (fun a ha => by simp at ha; rcases ha with rfl | rfl <;> assumption)) (byR_ZSCORE (fun a ha => by simp at ha; rcases ha with rfl | rfl <;> assumption)) (sh_ZSCORE)) ?_
   rintro _ h18 ⟨rfl, c18⟩
   have w := w.ext c18
   have w0 := w
   have c18' := c17'.nil c18
   -- ZRANK
   refine w.ld1 2 rfl (rfl : (encX (mkX kx tx pv lv rv ox))[0]? = some (.string kx)) ?_
   refine w.ld1 1 rfl rfl ?_
   refine sl_ix (hs.ext w.chg) 0 rfl hn0 ?_
   intro b19 h19 g19
   have c19' := c18'.nil g19.chg
   have w := w.ext g19.chg
   refine call_ret (does9_calls (AA := [vZRANK, kx, n0]) (hvL.ext c19') (gX.ext w.chg) nv unX riX (hla.ext w.chg) (tab9 ht w.chg) (show SL encS h19 (.slice (some ⟨b19, 0, none⟩) 3 3) [vZRANK, kx, n0] from ⟨_, 3, rfl, Nat.le_refl _, by exact cells_blk g19.blk⟩) (byP_ZRANK (fun a ha => by simp at ha; rcases ha with rfl | rfl <;> assumption)) (byR_ZRANK (fun a ha => by simp at ha; rcases ha with rfl | rfl <;> assumption)) (sh_ZRANK)) ?_
   rintro _ h20 ⟨rfl, c20⟩
   have w := w.ext c20
   have w0 := w
   have c20' := c19'.nil c20
   -- ZINCRBY
   refine w.ld1 2 rfl (rfl : (encX (mkX kx tx pv lv rv ox))[0]? = some (.string kx)) ?_
   refine w.ld1 1 rfl rfl ?_
   refine w.ld1 1 rfl rfl ?_
   refine sl_ix (hs.ext w.chg) 0 rfl hn0 ?_
   intro b21 h21 g21
   have c21' := c20'.nil g21.chg
   have w := w.ext g21.chg
   refine call_ret (does9_calls (AA := [vZINCRBY, kx, s, n0]) (hvL.ext c21') (gX.ext w.chg) nv unX riX (hla.ext w.chg) (tab9 ht w.chg) (show SL encS h21 (.slice (some ⟨b21, 0, none⟩) 4 4) [vZINCRBY, kx, s, n0] from ⟨_, 4, rfl, Nat.le_refl _, by exact cells_blk g21.blk⟩) (byP_ZINCRBY (fun a ha => by simp at ha; rcases ha with rfl | rfl | rfl <;> assumption)) (byR_ZINCRBY (fun a ha => by simp at ha; rcases ha with rfl | rfl | rfl <;> assumption)) (sh_ZINCRBY)) ?_
   rintro _ h22 ⟨rfl, c22⟩
   have w := w.ext c22
   have w0 := w
   have c22' := c21'.nil c22
   -- ZCARD
   refine w.ld1 2 rfl (rfl : (encX (mkX kx tx pv lv rv ox))[0]? = some (.string kx)) ?_
   intro b23 h23 g23
   have c23' := c22'.nil g23.chg
   have w := w.ext g23.chg
   refine call_ret (does9_calls (AA := [vZCARD, kx]) (hvL.ext c23') (gX.ext w.chg) nv unX riX (hla.ext w.chg) (tab9 ht w.chg) (show SL encS h23 (.slice (some ⟨b23, 0, none⟩) 2 2) [vZCARD, kx] from ⟨_, 2, rfl, Nat.le_refl _, by exact cells_blk g23.blk⟩) (byP_ZCARD (fun a ha => by simp at ha; rcases ha with rfl <;> assumption)) (byR_ZCARD (fun a ha => by simp at ha; rcases ha with rfl <;> assumption)) (sh_ZCARD)) ?_
   rintro _ h24 ⟨rfl, c24⟩
   have w := w.ext c24
   have w0 := w
   have c24' := c23'.nil c24
   -- ZRANGE
   refine w.ld1 2 rfl (rfl : (encX (mkX kx tx pv lv rv ox))[0]? = some (.string kx)) ?_
   refine w.ld1 1 rfl rfl ?_
   refine w.ld1 1 rfl rfl ?_
   intro b25 h25 g25
   have c25' := c24'.nil g25.chg
   have w := w.ext g25.chg
   refine call_ret (does9_calls (AA := [vZRANGE, kx, s, u]) (hvL.ext c25') (gX.ext w.chg) nv unX riX (hla.ext w.chg) (tab9 ht w.chg) (show SL encS h25 (.slice (some ⟨b25, 0, none⟩) 4 4) [vZRANGE, kx, s, u] from ⟨_, 4, rfl, Nat.le_refl _, by exact cells_blk g25.blk⟩) (byP_ZRANGE (fun a ha => by simp at ha; rcases ha with rfl | rfl | rfl <;> assumption)) (byR_ZRANGE (fun a ha => by simp at ha; rcases ha with rfl | rfl | rfl <;> assumption)) (sh_ZRANGE)) ?_
   rintro _ h26 ⟨rfl, c26⟩
   have w := w.ext c26
   have w0 := w
   have c26' := c25'.nil c26
   -- ZRANGEBYSCORE
   refine w.ld1 2 rfl (rfl : (encX (mkX kx tx pv lv rv ox))[0]? = some (.string kx)) ?_
   refine w.ld1 1 rfl rfl ?_
   refine w.ld1 1 rfl rfl ?_
   intro b27 h27 g27
   have c27' := c26'.nil g27.chg
   have w := w.ext g27.chg
   refine call_ret (does9_calls (AA := [vZRANGEBYSCORE, kx, s, u]) (hvL.ext c27') (gX.ext w.chg) nv unX riX (hla.ext w.chg) (tab9 ht w.chg) (show SL encS h27 (.slice (some ⟨b27, 0, none⟩) 4 4) [vZRANGEBYSCORE, kx, s, u] from ⟨_, 4, rfl, Nat.le_refl _, by exact cells_blk g27.blk⟩) (byP_ZRANGEBYSCORE (fun a ha => by simp at ha; rcases ha with rfl | rfl | rfl <;> assumption)) (byR_ZRANGEBYSCORE (fun a ha => by simp at ha; rcases ha with rfl | rfl | rfl <;> assumption)) (sh_ZRANGEBYSCORE)) ?_
   rintro _ h28 ⟨rfl, c28⟩
   have w := w.ext c28
   have w0 := w
   have c28' := c27'.nil c28
   refine call_ret known9_ret ?_
   rintro _ h9 ⟨rfl, c9⟩
   exact Ai rfl (w.chg.nil c9)
theorem CollsRanks_calls {h : Heap} {x : RX} {nv : Value} {N : List ByteArray} {s u : ByteArray} {now : Int} (hx : TH h x.vs x.thing) (hxf : XFit [x]) (hun : In64 x.thing.unt) (hri : ∀ r ∈ x.thing.ranks, In64 r.score) (hs : SL encS h nv N) (fd : SFit N) (z1 : s.size < 4611686018427387904) (z2 : u.size < 4611686018427387904) (hla : LaidN h) (ht : K5.TabH h) :
  CallsH Tryz.prog 6 [.agg ⟨encX x⟩, .int .i64 now, .agg ⟨[nv, .string s, .string u]⟩] h (Ret fun r h' => r = .bool true ∧ Chg [] h h') := by
 obtain ⟨kx, tx, vx, lx, ox⟩ := x
 obtain ⟨pv, lv, rv, hvx, hr⟩ := id hx
 have hvx : vx = v7 tx pv lv rv := hvx
 subst hvx
 exact CollsRanks_go (ox := ox) hx hxf hun hri hs fd z1 z2 hla ht
end Go.Proofs.YtjnijlnmbjjgpaaGreatDoor
namespace Go.Proofs.YtjnijlnmbjjgpaaGreatDoor
open Go Go.Sx Go.ChangeShapes Go.WideShapes Go.ChangeAt Go.RowKit
theorem own : ownKnob Tryz.prog.godebug = none := by kernel_rfl
theorem laidOut : laidOutB Tryz.prog = true := by kernel_rfl
def tab32 : List Int := [0, 1, 28, 2, 29, 14, 24, 3, 30, 22, 20, 15, 25, 17, 4, 8, 31, 27, 13, 23, 21, 19, 16, 7, 26, 12, 18, 6, 11, 5, 10, 9]
def tab64 : List Int := [0, 1, 56, 2, 57, 49, 28, 3, 61, 58, 42, 50, 38, 29, 17, 4, 62, 47, 59, 36, 45, 43, 51, 22, 53, 39, 33, 30, 24, 18, 12, 5, 63, 55, 48, 27, 60, 41, 37, 16, 46, 35, 44, 21, 52, 32, 23, 11, 54, 26, 40, 15, 34, 20, 31, 10, 25, 14, 19, 9, 13, 8, 7, 6]
def pow10 : List Int := [1, 10, 100, 1000, 10000, 100000, 1000000, 10000000, 100000000, 1000000000, 10000000000, 100000000000, 1000000000000, 10000000000000, 100000000000000, 1000000000000000, 10000000000000000, 100000000000000000, 1000000000000000000, 10000000000000000000]
def wordRange : ByteArray := ⟨#[118, 97, 108, 117, 101, 32, 111, 117, 116, 32, 111, 102, 32, 114, 97, 110, 103, 101]⟩
def wordSyntax : ByteArray := ⟨#[105, 110, 118, 97, 108, 105, 100, 32, 115, 121, 110, 116, 97, 120]⟩
def laid5 : List (String × DataW Unit) := [("math/bits.deBruijn32tab", Rows.laid_math_bits_deBruijn32tab), ("math/bits.deBruijn64tab", Rows.laid_math_bits_deBruijn64tab), ("internal/strconv.uint64pow10", Rows.laid_internal_strconv_uint64pow10), ("strconv.ErrRange", Rows.laid_strconv_ErrRange), ("strconv.ErrSyntax", Rows.laid_strconv_ErrSyntax)]
def putTab (vs : Array Value) : Obj → Obj
 |.cells _ t frozen => .cells vs t frozen
 |o => o
noncomputable def bare (os : Os) : World := World.holding Tryz.prog os ⟨#[], #[], []⟩
noncomputable def laidWorld (os : Os) : World :=
 { bare os with heap := ((((((bare os).heap.modify 2 (putTab (tab32.map fun z => Value.int .u8 z).toArray)).modify 3 (putTab (tab64.map fun z => Value.int .u8 z).toArray)).modify 0 (putTab (pow10.map fun z => Value.int .u64 z).toArray)).modify 5
  (putTab #[.iface 348 (.pointer (some ⟨(bare os).heap.size, 0, none⟩))])).modify 4 (putTab #[.iface 348 (.pointer (some ⟨(bare os).heap.size + 1, 0, none⟩))])) ++
  #[.cells #[.string wordRange] 350 (0, 0), .cells #[.string wordSyntax] 350 (0, 0)] }
theorem laid_met (os : Os) (args : Array Value) : laidMet Tryz.prog laid5 ((laidWorld os).forCall (fun _ _ => 0) ⟨#[], args, []⟩).memory :=
 laidMet_of_run' 8 (by kernel_rfl) (by kernel_rfl)
theorem int_arg {P : Program} {W : World} {b0 : Nat} {r : Reach} {t : TypeId} {v : Value} (ht : P.underlying t = some (.int .i64)) (hval : Value.okWide P W r b0 t v) :
  ∃ n, v = .int .i64 n := by
 simp only [Value.okWide, Cell.okWide, Cell.ok, ht] at hval
 split at hval <;> simp_all
theorem len2 {α : Type} {l : List α} (h : l.length = 2) : ∃ a b, l = [a, b] := by
 match l, h with
 |[a, b], _ => exact ⟨a, b, rfl⟩
theorem len7 {α : Type} {l : List α} (h : l.length = 7) : ∃ a0 a1 a2 a3 a4 a5 a6, l = [a0, a1, a2, a3, a4, a5, a6] := by
 match l, h with
 |[a0, a1, a2, a3, a4, a5, a6], _ => exact ⟨a0, a1, a2, a3, a4, a5, a6, rfl⟩
theorem len8 {α : Type} {l : List α} (h : l.length = 8) : ∃ a0 a1 a2 a3 a4 a5 a6 a7, l = [a0, a1, a2, a3, a4, a5, a6, a7] := by
 match l, h with
 |[a0, a1, a2, a3, a4, a5, a6, a7], _ => exact ⟨a0, a1, a2, a3, a4, a5, a6, a7, rfl⟩
section
variable {H : Type} {enc : TypeId × Value → H} {W : World} {base n : Nat} {sp : Nat → Bool} {held : Bool} {cs : List Value} {x : DataW H × List MemPlace}
theorem open_rank (h : DataW.trod enc Tryz.prog W base sp held n 110 cs = some x) (hw : Wts Tryz.prog 110 x.1) : ∃ a : Rank, cs = encR a ∧ a.name.size < 1000000000000000000 ∧ (-9223372036854775808 ≤ a.score ∧ a.score ≤ 9223372036854775807) := by
 obtain ⟨xs, m, rfl, hx, hl, hls, hi⟩ := DataW.trod_struct Tryz.underlying110 h
 have c9 : Tryz.prog.cellsOf 9 = 1 := by kernel_rfl
 have c2 : Tryz.prog.cellsOf 2 = 1 := by kernel_rfl
 have cc : Tryz.prog.cellsOf 110 = 2 := by kernel_rfl
 rw [cc] at hl
 obtain ⟨u, v, rfl⟩ := len2 hl
 obtain ⟨y, z, rfl⟩ := len2 (l := xs) hls
 have h0 := fld hi 0 9 0 1 rfl rfl rfl c9 rfl rfl
 have h1 := fld hi 1 2 1 1 rfl rfl rfl c2 rfl rfl
 have hw0 : Wts Tryz.prog 9 y.1 := by
  intro k hk
  refine hw k ?_
  rw [hx]
  simp only [DataW.weights, Tryz.underlying110, List.map_cons, List.map_nil, DataW.weightsEach, List.mem_append]
  exact .inl hk
 obtain ⟨nm, e0, hs⟩ := str_of_trod Tryz.underlying9 h0 hw0
 obtain ⟨k, e1, _, wf1⟩ := DataW.trod_int Tryz.underlying2 h1
 have un1 : -9223372036854775808 ≤ k ∧ k ≤ 9223372036854775807 := by
  unfold Lit.wf at wf1
  simp only [Bool.and_eq_true, decide_eq_true_eq] at wf1
  exact wf1
 obtain ⟨rfl⟩ := e0
 obtain ⟨rfl⟩ := e1
 have := reachBytes_lt
 exact ⟨⟨nm, k⟩, rfl, by show nm.size < _; omega, un1⟩
theorem open_pair (h : DataW.trod enc Tryz.prog W base sp held n 108 cs = some x) (hw : Wts Tryz.prog 108 x.1) : ∃ a : Pair, cs = encP a ∧ a.name.size < 1000000000000000000 ∧ a.text.size < 1000000000000000000 := by
 obtain ⟨xs, m, rfl, hx, hl, hls, hi⟩ := DataW.trod_struct Tryz.underlying108 h
 have c9 : Tryz.prog.cellsOf 9 = 1 := by kernel_rfl
 have cc : Tryz.prog.cellsOf 108 = 2 := by kernel_rfl
 rw [cc] at hl
 obtain ⟨u, v, rfl⟩ := len2 hl
 obtain ⟨y, z, rfl⟩ := len2 (l := xs) hls
 have h0 := fld hi 0 9 0 1 rfl rfl rfl c9 rfl rfl
 have h1 := fld hi 1 9 1 1 rfl rfl rfl c9 rfl rfl
 have hw0 : Wts Tryz.prog 9 y.1 := by
  intro k hk
  refine hw k ?_
  rw [hx]
  simp only [DataW.weights, Tryz.underlying108, List.map_cons, List.map_nil, DataW.weightsEach, List.mem_append]
  exact .inl hk
 have hw1 : Wts Tryz.prog 9 z.1 := by
  intro k hk
  refine hw k ?_
  rw [hx]
  simp only [DataW.weights, Tryz.underlying108, List.map_cons, List.map_nil, DataW.weightsEach, List.mem_append]
  exact .inr (.inl hk)
 obtain ⟨nm, e0, hs⟩ := str_of_trod Tryz.underlying9 h0 hw0
 obtain ⟨tx, e1, hs1⟩ := str_of_trod Tryz.underlying9 h1 hw1
 obtain ⟨rfl⟩ := e0
 obtain ⟨rfl⟩ := e1
 have := reachBytes_lt
 exact ⟨⟨nm, tx⟩, rfl, by show nm.size < _; omega, by show tx.size < _; omega⟩
theorem open_s (h : DataW.trod enc Tryz.prog W base sp held n 9 cs = some x) (hw : Wts Tryz.prog 9 x.1) : ∃ a : ByteArray, cs = encS a ∧ a.size < 1000000000000000000 := by
 obtain ⟨nm, e0, hs⟩ := str_of_trod Tryz.underlying9 h hw
 have := reachBytes_lt
 exact ⟨nm, e0, by omega⟩
set_option maxRecDepth 100000 in
theorem open_thing (h : DataW.trod enc Tryz.prog W base sp held n 27 cs = some x) (hw : Wts Tryz.prog 27 x.1) :
  ∃ t : Thing, TH W.heap cs t ∧ Fits t ∧ Sized t ∧ cs.length = 7 ∧ (-9223372036854775808 ≤ t.unt ∧ t.unt ≤ 9223372036854775807) ∧ ∀ r ∈ t.ranks, -9223372036854775808 ≤ r.score ∧ r.score ≤ 9223372036854775807 := by
 obtain ⟨xs, m, rfl, hx, hl, hls, hi⟩ := DataW.trod_struct Tryz.underlying27 h
 have hd : x.1 = .agg (xs.map (·.1)) := congrArg Prod.fst hx
 have c9 : Tryz.prog.cellsOf 9 = 1 := by kernel_rfl
 have c2 : Tryz.prog.cellsOf 2 = 1 := by kernel_rfl
 have c4 : Tryz.prog.cellsOf 4 = 1 := by kernel_rfl
 have c22 : Tryz.prog.cellsOf 22 = 1 := by kernel_rfl
 have c23 : Tryz.prog.cellsOf 23 = 1 := by kernel_rfl
 have c24 : Tryz.prog.cellsOf 24 = 1 := by kernel_rfl
 have c25 : Tryz.prog.cellsOf 25 = 1 := by kernel_rfl
 have c27 : Tryz.prog.cellsOf 27 = 7 := by kernel_rfl
 rw [c27] at hl
 obtain ⟨a0, a1, a2, a3, a4, a5, a6, rfl⟩ := len7 hl
 obtain ⟨y0, y1, y2, y3, y4, y5, y6, rfl⟩ := len7 (l := xs) hls
 have h0 := fld hi 0 22 0 1 rfl rfl rfl c22 rfl rfl
 have h1 := fld hi 1 9 1 1 rfl rfl rfl c9 rfl rfl
 have h2 := fld hi 2 23 2 1 rfl rfl rfl c23 rfl rfl
 have h3 := fld hi 3 24 3 1 rfl rfl rfl c24 rfl rfl
 have h4 := fld hi 4 25 4 1 rfl rfl rfl c25 rfl rfl
 have h5 := fld hi 5 4 5 1 rfl rfl rfl c4 rfl rfl
 have h6 := fld hi 6 2 6 1 rfl rfl rfl c2 rfl rfl
 have hwk : ∀ (i t : Nat) (y : DataW H × List MemPlace), [22, 9, 23, 24, 25, 4, 2][i]? = some t → [y0, y1, y2, y3, y4, y5, y6][i]? = some y → Wts Tryz.prog t y.1 := by
  intro i t y ht hy k hk
  refine hw k ?_
  rw [hd]
  simp only [DataW.weights, Tryz.underlying27]
  refine DataW.weights_mem_each (j := i) (t := t) (d := y.1) ?_ ?_ k hk
  ·exact ht
  ·rw [List.getElem?_map, hy]; rfl
 obtain ⟨kd, e0, _, _⟩ := DataW.trod_int Tryz.underlying22 h0
 obtain ⟨tx, e1, hs1⟩ := str_of_trod Tryz.underlying9 h1 (hwk 1 9 y1 rfl rfl)
 obtain ⟨lp, sp, gp, np⟩ := open_cell (k := 2) (en := encP) Tryz.underlying23 (by kernel_rfl) (by decide) encP_len (fun n cs x h hw => open_pair h hw) h2 (hwk 2 23 y2 rfl rfl)
 obtain ⟨ll, sl, gl, nl⟩ := open_cell (k := 1) (en := encS) Tryz.underlying24 (by kernel_rfl) (by decide) encS_len (fun n cs x h hw => open_s h hw) h3 (hwk 3 24 y3 rfl rfl)
 obtain ⟨lr, sr, gr, nr⟩ := open_cell (k := 2) (en := encR) Tryz.underlying25 (by kernel_rfl) (by decide) encR_len (fun n cs x h hw => open_rank h hw) h4 (hwk 4 25 y4 rfl rfl)
 obtain ⟨bu, e5, _⟩ := DataW.trod_bool Tryz.underlying4 h5
 obtain ⟨un, e6, _, wf6⟩ := DataW.trod_int Tryz.underlying2 h6
 have un6 : -9223372036854775808 ≤ un ∧ un ≤ 9223372036854775807 := by
  unfold Lit.wf at wf6
  simp only [Bool.and_eq_true, decide_eq_true_eq] at wf6
  exact wf6
 obtain ⟨rfl⟩ := e0
 obtain ⟨rfl⟩ := e1
 obtain ⟨rfl⟩ := e5
 obtain ⟨rfl⟩ := e6
 have b32 : Tryz.prog.bytesOf 108 = 32 := by kernel_rfl
 have b9 : Tryz.prog.bytesOf 9 = 16 := by kernel_rfl
 have b34 : Tryz.prog.bytesOf 110 = 24 := by kernel_rfl
 rw [b32] at np
 rw [b9] at nl
 rw [b34] at nr
 have := reachBytes_lt
 refine ⟨⟨kd, tx, lp, ll, lr, bu, un⟩, ⟨_, _, _, rfl, sp, sl, sr⟩, ⟨?_, ?_, ?_⟩, ⟨?_, gp, gl, fun r hr => (gr r hr).1⟩, rfl, un6, fun r hr => (gr r hr).2⟩
 ·show lp.length < _; omega
 ·show ll.length < _; omega
 ·show lr.length < _; omega
 ·show tx.size < _; omega
structure GoodX (h : Heap) (x : RX) : Prop where
 th : TH h x.vs x.thing
 fits : Fits x.thing
 sized : Sized x.thing
 key : x.key.size < 1000000000000000000
 unt : -9223372036854775808 ≤ x.thing.unt ∧ x.thing.unt ≤ 9223372036854775807
 ri : ∀ r ∈ x.thing.ranks, -9223372036854775808 ≤ r.score ∧ r.score ≤ 9223372036854775807
set_option maxRecDepth 100000 in
theorem open_entry (h : DataW.trod enc Tryz.prog W base sp held n 29 cs = some x) (hw : Wts Tryz.prog 29 x.1) : ∃ a : RX, cs = encX a ∧ GoodX W.heap a := by
 obtain ⟨xs, m, rfl, hx, hl, hls, hi⟩ := DataW.trod_struct Tryz.underlying29 h
 have hd : x.1 = .agg (xs.map (·.1)) := congrArg Prod.fst hx
 have c9 : Tryz.prog.cellsOf 9 = 1 := by kernel_rfl
 have c7 : Tryz.prog.cellsOf 27 = 7 := by kernel_rfl
 have cc : Tryz.prog.cellsOf 29 = 8 := by kernel_rfl
 rw [cc] at hl
 obtain ⟨k0, a0, a1, a2, a3, a4, a5, a6, rfl⟩ := len8 hl
 obtain ⟨y, z, rfl⟩ := len2 (l := xs) hls
 have h0 := fld hi 0 9 0 1 rfl rfl rfl c9 rfl rfl
 have h1 := fld hi 1 27 1 7 rfl rfl rfl c7 rfl rfl
 have hwk : ∀ (i t : Nat) (w : DataW H × List MemPlace), [9, 27][i]? = some t → [y, z][i]? = some w → Wts Tryz.prog t w.1 := by
  intro i t y ht hy k hk
  refine hw k ?_
  rw [hd]
  simp only [DataW.weights, Tryz.underlying29]
  refine DataW.weights_mem_each (j := i) (t := t) (d := y.1) ?_ ?_ k hk
  ·exact ht
  ·rw [List.getElem?_map, hy]; rfl
 obtain ⟨key, e0, hz⟩ := str_of_trod Tryz.underlying9 h0 (hwk 0 9 y rfl rfl)
 obtain ⟨t, th, ft, st, hl7, un, ri⟩ := open_thing h1 (hwk 1 27 z rfl rfl)
 obtain ⟨rfl⟩ := e0
 have := reachBytes_lt
 exact ⟨⟨key, t, _, hl7, thing_one th⟩, rfl, th, ft, st, by show key.size < _; omega, un, ri⟩
end
end Go.Proofs.YtjnijlnmbjjgpaaGreatDoor
namespace Go.Proofs.YtjnijlnmbjjgpaaGreatDoor
open Go Go.Sx Go.ChangeShapes Go.WideShapes Go.ChangeAt Go.RowKit
theorem trod_iface {H : Type} {enc : TypeId × Value → H} {P : Program} {w : World} {base n : Nat} {sp : Nat → Bool} {held : Bool} {t : TypeId} {cs : List Value} {x : DataW H × List MemPlace}
  (ht : (match P.underlying t with | some (.interface _) => true | _ => false) = true) (h : DataW.trod enc P w base sp held n t cs = some x) : ∃ v, cs = [v] ∧ IfaceV v := by
 obtain ⟨ms, ht⟩ : ∃ ms, P.underlying t = some (.interface ms) := by
  split at ht
  ·rename_i ms h1; exact ⟨ms, h1⟩
  ·cases ht
 cases n with
 |zero => simp [DataW.trod] at h
 |succ n =>
  simp only [DataW.trod, ht] at h
  split at h <;> first | exact ⟨_, rfl, .inl rfl⟩ | exact ⟨_, rfl, .inr ⟨_, _, rfl⟩⟩ | (exfalso; simp_all; done)
theorem errV {W : World} {n : String} {gi : Nat} {g : Nat} {t : TypeId} {cs : Array Value} {fuel : Nat} {d : DataW Unit} {p : List MemPlace} (hgi : Tryz.prog.globalNamed n = some gi) (hti : (Tryz.prog.globals[gi]?).map (·.type) = some 244)
  (hg : Tryz.prog.globalNamed n = some g) (ht : (Tryz.prog.globals[g]?).map (·.type) = some t) (hv : W.var? Tryz.prog n = some cs) (h : DataW.trod (fun _ => ()) Tryz.prog W 0 (fun _ => true) false fuel t cs.toList = some (d, p)) :
  ∃ v, cell W.heap gi 0 = some v ∧ IfaceV v := by
 obtain rfl := Option.some.inj (hgi.symm.trans hg)
 obtain rfl := Option.some.inj (hti.symm.trans ht)
 obtain ⟨v, e, hi⟩ := trod_iface (by kernel_rfl) h
 refine ⟨v, ?_, hi⟩
 unfold World.var? at hv
 rw [hgi] at hv
 have hv : (match W.heap[gi]? with | some (.cells cs _ _) => some cs | _ => none) = some cs := hv
 unfold cell
 split at hv
 ·rename_i h1
  injection hv with hv
  subst hv
  rw [h1]
  show (_ : Array Value)[0]? = _
  rw [← Array.getElem?_toList, e]; rfl
 ·cases hv
theorem laidN_of {W : World} (h : laidMetH Tryz.prog laid5 W) : LaidN W.heap := by
 have h : laidMet Tryz.prog laid5 W := h
 obtain ⟨ps, ⟨_, _, _, _, _, _, _, _, _, _, ⟨_, _, _, _, _, _, _, _, _, _, ⟨g, t, cs, fuel, p, q, hg, ht, hv, htr, ⟨g2, t2, cs2, fuel2, p2, q2, hg2, ht2, hv2, htr2, ⟨g3, t3, cs3, fuel3, p3, q3, hg3, ht3, hv3, htr3, _, _⟩, _⟩, _⟩, _⟩, _⟩, _⟩ := h
 refine ⟨?_, errV (by kernel_rfl) (by kernel_rfl) hg3 ht3 hv3 htr3, errV (by kernel_rfl) (by kernel_rfl) hg2 ht2 hv2 htr2⟩
 have hgi : Tryz.prog.globalNamed "internal/strconv.uint64pow10" = some 0 := by kernel_rfl
 have hti : (Tryz.prog.globals[0]?).map (·.type) = some 234 := by kernel_rfl
 obtain rfl := Option.some.inj (hgi.symm.trans hg)
 obtain rfl := Option.some.inj (hti.symm.trans ht)
 have hc := Lib.cells_of_tab (k := .u64) (zs := Lib.pow10Tab) (n := 20) (e := 183) (by kernel_rfl) (by kernel_rfl) (by kernel_rfl) (by kernel_rfl) htr
 unfold World.var? at hv
 rw [hgi] at hv
 have hv : (match W.heap[(0 : Nat)]? with | some (.cells cs _ _) => some cs | _ => none) = some cs := hv
 split at hv
 ·rename_i h1
  injection hv with hv
  subst hv
  exact ⟨_, _, by rw [h1, ← hc]⟩
 ·cases hv
section
variable {H : Type} {enc : TypeId × Value → H} {W : World} {base n : Nat} {sp : Nat → Bool} {held : Bool}
end
end Go.Proofs.YtjnijlnmbjjgpaaGreatDoor
namespace Go.Proofs.YtjnijlnmbjjgpaaGreatDoor
open Go Go.Sx Go.ChangeShapes Go.WideShapes Go.ChangeAt Go.RowKit
theorem g64 : Tryz.prog.globalNamed "math/bits.deBruijn64tab" = some 3 := by kernel_rfl
theorem tab64_in : ∀ i < 64, 0 ≤ tab64.getD i 0 ∧ tab64.getD i 0 ≤ 255 := by decide
theorem laid_tail {P : Program} {W : World} {x : String × DataW Unit} {l : List (String × DataW Unit)} (h : laidMet P (x :: l) W) : ∃ ps, DataW.LaidVars P W l ps := by
 obtain ⟨ps, ⟨g', t', cs, fuel, p, q, hg', ht', hvar, hd, hr, _⟩, _⟩ := h
 exact ⟨q, hr⟩
theorem tabH_of {W : World} (h : laidMetH Tryz.prog laid5 W) : K5.TabH W.heap := by
 have h' : laidMet Tryz.prog laid5 W := h
 obtain ⟨ps, g', t', cs, fuel, p, q, hg', ht', hvar, hd, _, _⟩ := laid_tail h'
 obtain rfl := Option.some.inj (g64.symm.trans hg')
 have hti : (Tryz.prog.globals[3]?).map (·.type) = some 318 := by kernel_rfl
 obtain rfl := Option.some.inj (hti.symm.trans ht')
 have hcs := Lib.cells_of_tab (k := .u8) (zs := tab64) (n := 64) (e := 5) (by kernel_rfl) (by kernel_rfl) (by kernel_rfl) (by kernel_rfl) hd
 intro i hi
 have hc := World.var?_cell g64 hvar i
 have h1 := tab64_in i hi
 refine ⟨tab64.getD i 0, h1.1, h1.2, ?_⟩
 rw [← world_cell, hc]
 have e1 : cs[i]? = cs.toList[i]? := by simp
 rw [e1, hcs]
 have hi' : i < tab64.length := hi
 simp [List.getD, hi']
end Go.Proofs.YtjnijlnmbjjgpaaGreatDoor
