/-
  Layer 8: a command that is asked, as what stands in a walk.
  Layer 8: a text's number, by the document's reading.
  Layer 8: the document's number of a text.
  The simplified code of this seat's functions, and that it is what the program's code comes to. Printed by a program (wip/print.lean).
  The simplified code of this seat's functions, and that it is what the program's code comes to. Printed by a program (wip/print.lean).
  Layer 8: GET, STRLEN, INCR, DECR, INCRBY, APPEND.
  Layer 8: INCR, DECR, INCRBY, APPEND.
  Layer 8: what the commands come to; plain.
  Layer 7: the document's Get: its thing stands at every later heap.
  Layer 9: the document's answer, its block longer: what is asked stands in one block; its small functions.
  Layer 9: what the commands of things with items come to; plain.
  Layer 9: the document's answer: a gone thing, the thing under the key, an effect that makes something.
  The simplified code of this seat's functions, and that it is what the program's code comes to. Printed by a program (wip/print.lean).
  The simplified code of this seat's functions, and that it is what the program's code comes to. Printed by a program (wip/print.lean).
  The simplified code of this seat's functions, and that it is what the program's code comes to. Printed by a program (wip/print.lean).
  The simplified code of this seat's functions, and that it is what the program's code comes to. Printed by a program (wip/print.lean).
  The simplified code of this seat's functions, and that it is what the program's code comes to. Printed by a program (wip/print.lean).
  The simplified code of this seat's functions, and that it is what the program's code comes to. Printed by a program (wip/print.lean).
  The simplified code of this seat's functions, and that it is what the program's code comes to. Printed by a program (wip/print.lean).
  Layer 8: what Do does behind a command: a stop is an error's reply.
  Layer 8: a text in capital letters, by the document and by the program.
  Layer 8: the map of commands: which function stands under which word; by a walk.
  Layer 8: Do, for a word that is a command's.
  Layer 8: Do, whatever is asked.
  Layer 8: what effects make of a keyspace, one behind the other; plain.
  Layer 8: TYPE, PERSIST, PTTL, PEXPIRE, DBSIZE.
  Layer 8: what is known of a keyspace that keys.Of made of few things.
  Layer 8: EXISTS, DEL, DBSIZE.
  Layer 8: MGET, KEYS, DEL, MSET.
  Layer 8: DEL, MSET.
  Layer 8: SET, FLUSHALL.
  Layer 8: whatever is asked: its effects are all done.
  Layer 9: the document's answer: the thing under the key, what is made and what is taken away.
  Layer 9: a command that is asked of a thing: its block as an entry; giving up.
  Layer 9: giving up; how many arguments; the thing under the key; a number; effects. (Not built yet: written from the printed code.)
  Layer 9: the thing under the key; an effect that makes something, that takes away. (Not built yet: written from the printed code.)
  Layer 9: replies that are lists; places. (Written by gencd.py.)
  Layer 9: the document's answer: spans, lists of texts.
  Layer 9: the commands of lists.
  Layer 9: the document's answer: the commands of lists. (Written by genrl.py.)
  Layer 9: a text in capital letters, by the program.
  Layer 9: the map of commands; Do, for a word that is a command's. (Written by gencg.py.)
  Layer 9: the document's answer: Do. (Written by genrd.py.)
  Layer 9: the document's answer: Do, for the commands of lists.
  Layer 8: replies as they stand in memory; whether two are the same.
  Layer 9: effects on things with items: all of a command's effects are done; plain.
  Layer 9: all of a command's effects are done, whatever is asked; plain.
-/
import Derived.Test.YtjnijlnmbjjgpaaGreatDoorProg
import Derived.Test.YtjnijlnmbjjgpaaGreatDoorZS9C
namespace Go.Proofs.YtjnijlnmbjjgpaaGreatDoor
open Go Go.Sx C
section
variable {h0 h h1 h' : Heap} {ab kb : Nat} {now : Int} {av lv lv' : Value} {A : List ByteArray} {L E : List Eff} {M : List En} {T : List Nat}
end
def thE (t : Thing) (pv lv rv : Value) : En :=
 .x (bl3 pv lv rv) (fun h => TH h (cellsT t pv lv rv) t ∧ ∀ b ∈ bl3 pv lv rv, b < h.size) (fun _S _h _h' hc hn ⟨h1, h2⟩ => ⟨th_off h1 hc hn, fun b hb => Nat.lt_of_lt_of_le (h2 b hb) hc.size⟩) (fun _h ⟨_, h2⟩ b hb => h2 b hb)
def apart7 (c d e0 e1 b v a1 a2 a3 : Nat) (E : List (Nat × Value)) : Bool :=
 !Nat.beq d e0 && !Nat.beq e0 b && !Nat.beq e0 e1 && !Nat.beq e1 b && !Nat.beq b v && !Nat.beq b c && !Nat.beq b d && !Nat.beq b e1 && !Nat.beq a1 b && !Nat.beq a2 b && !Nat.beq a3 b &&
  E.all fun p => !Nat.beq p.1 c && !Nat.beq p.1 d && !Nat.beq p.1 e0 && !Nat.beq p.1 e1 && !Nat.beq p.1 b && !Nat.beq p.1 v
theorem beqF {a b : Nat} (h : Nat.beq a b = false) : a ≠ b := fun e => by subst e; rw [Nat.beq_refl] at h; cases h
theorem beqT {a b : Nat} (h : a ≠ b) : Nat.beq a b = false := by
 cases hb : Nat.beq a b with
 |false => rfl
 |true => exact absurd (Nat.eq_of_beq_eq_true hb) h
theorem sub7 {σ τ : Env} {c d e0 e1 b v : Nat} : ∀ {E : List (Nat × Value)}, SubL σ E → (E.all fun p => !Nat.beq p.1 c && !Nat.beq p.1 d && !Nat.beq p.1 e0 && !Nat.beq p.1 e1 && !Nat.beq p.1 b && !Nat.beq p.1 v) = true →
  (∀ t, t ≠ c → t ≠ d → t ≠ e0 → t ≠ e1 → t ≠ b → t ≠ v → τ t = σ t) → SubL τ E
 |[], _, _, _ => trivial
 |(n, u) :: E, ⟨h1, h2⟩, ha, ht => by
  simp only [List.all_cons, Bool.and_eq_true, Bool.not_eq_true'] at ha
  obtain ⟨⟨⟨⟨⟨⟨n1, n2⟩, n3⟩, n4⟩, n5⟩, n6⟩, ha⟩ := ha
  exact ⟨by rw [ht n (beqF n1) (beqF n2) (beqF n3) (beqF n4) (beqF n5) (beqF n6)]; exact h1, sub7 h2 ha ht⟩
structure Rep where
 k : Int
 i : Int
 s : ByteArray
 l : List (Int × Int × ByteArray)
abbrev rep (k i : Int) (s : ByteArray) : Rep := ⟨k, i, s, []⟩
def encQ (x : Int × Int × ByteArray) : List Value := [.int .i64 x.1, .int .i64 x.2.1, .string x.2.2, .slice none 0 0]
theorem encQ_len (x : Int × Int × ByteArray) : (encQ x).length = 4 := rfl
theorem encQ_one (x : Int × Int × ByteArray) : ∀ u ∈ encQ x, u.oneCell' = true := repV_ones x.1 x.2.1 x.2.2
def RepAt (z : Nat) (h : Heap) (v : Value) (q : Rep) : Prop := ∃ a n c, v = .agg ⟨[.int .i64 q.k, .int .i64 q.i, .string q.s, .slice a n c]⟩ ∧ SL encQ h (.slice a n c) q.l ∧ ∀ b ∈ ablk a, z ≤ b
theorem four {ws vs : List Value} (hw : ws.length = 4) (hv : vs.length = 4) : splice ws 0 vs = vs := by
 match ws, hw, vs, hv with
 |[_, _, _, _], _, [_, _, _, _], _ => rfl
section
variable {h0 h h1 h' : Heap} {ab kb sb mb c b2 : Nat} {now lo hi k n : Int} {av lv lv' : Value} {A : List ByteArray} {L E : List Eff} {M : List En} {T : List Nat} {s key why : ByteArray} {m : List KI} {S : Space} {res : Except ByteArray (Rep × List Eff)}
 {K : Value → Heap → Prop} {Qp : List PanicEntry → Heap → Prop}
def wArgs : ByteArray := ⟨#[69, 82, 82, 32, 97, 114, 103, 115]⟩
end
theorem mono_at {c : SCode} {Q : Post} {ds : List Deferred} (hq : Mono Q) : MonoE (fun σ h => swp Tryz.prog c Q σ ds h) := fun σ σ' h hs hh => swp_sub c Q σ σ' ds h hq hs hh
theorem one_arg {α : Type} {A : List α} (h : (1 : Int) ≤ A.length ∧ (A.length : Int) ≤ 1) : ∃ x, A = [x] := by
 match A, h with
 |[], h => simp at h
 |[x], _ => exact ⟨x, rfl⟩
 |x :: y :: l, h => simp at h; omega
theorem two_arg {α : Type} {A : List α} (h : (2 : Int) ≤ A.length ∧ (A.length : Int) ≤ 2) : ∃ x y, A = [x, y] := by
 match A, h with
 |[], h => simp at h
 |[x], h => simp at h
 |[x, y], _ => exact ⟨x, y, rfl⟩
 |x :: y :: z :: l, h => simp at h; omega
def arg1 (f : ByteArray → Except ByteArray (Rep × List Eff)) : List ByteArray → Except ByteArray (Rep × List Eff)
 |[x] => f x
 |_ => .error wArgs
def arg2 (f : ByteArray → ByteArray → Except ByteArray (Rep × List Eff)) : List ByteArray → Except ByteArray (Rep × List Eff)
 |[x, y] => f x y
 |_ => .error wArgs
theorem arg1_bad {f : ByteArray → Except ByteArray (Rep × List Eff)} {A : List ByteArray} (h : ¬ ((1 : Int) ≤ A.length ∧ (A.length : Int) ≤ 1)) : arg1 f A = .error wArgs := by
 match A, h with
 |[], _ => rfl
 |[x], h => exact absurd ⟨by simp, by simp⟩ h
 |x :: y :: l, _ => rfl
theorem arg2_bad {f : ByteArray → ByteArray → Except ByteArray (Rep × List Eff)} {A : List ByteArray} (h : ¬ ((2 : Int) ≤ A.length ∧ (A.length : Int) ≤ 2)) : arg2 f A = .error wArgs := by
 match A, h with
 |[], _ => rfl
 |[x], _ => rfl
 |[x, y], h => exact absurd ⟨by simp, by simp⟩ h
 |x :: y :: z :: l, _ => rfl
end Go.Proofs.YtjnijlnmbjjgpaaGreatDoor
namespace Go.Proofs.YtjnijlnmbjjgpaaGreatDoor
open Go Go.Sx C Go.Num
def T63 : Nat := 9223372036854775808
def rest13 : SCode := (.seq (.seq (.ops f132r7) (.cond (.tmp 41) (.seq (.ops f132r8) .ret) .skip)) (.seq (.ops f132r9) (.seq (.seq (.ops f132r10) (.block 0 (.loop f132l19)))
 (.seq (.seq (.ops f132r20) (.cond (.tmp 72) (.seq (.ops f132r21) .ret) .skip)) (.seq (.seq (.ops f132r22) (.cond (.tmp 75) (.seq (.ops f132r23) .ret) .skip)) (.seq (.ops f132r24) .ret))))))
def numV (o : Option Int) : Value := .tuple #[.int .i64 (o.getD 0), .bool o.isSome]
theorem wrapU8 {x : Int} (h0 : 0 ≤ x) (h1 : x < 256) : IntKind.u8.wrap x = x := by
 have e : IntKind.u8.wrap x = x % 256 := by simp [IntKind.wrap, IntKind.bits, IntKind.signed]
 rw [e]; omega
theorem at_get {d : List UInt8} {q : Nat} (hq : q < d.length) : (⟨⟨d⟩⟩ : ByteArray)[q]? = some d[q] := by
 show (⟨d⟩ : Array UInt8)[q]? = _
 simp [hq]
theorem drop_at {d : List UInt8} {q : Nat} (hq : q < d.length) : d.drop q = d[q] :: d.drop (q + 1) := List.drop_eq_getElem_cons hq
theorem quo10 {T x : Nat} (h : x ≤ T) : (-(T : Int) + x).tdiv 10 = -(((T - x) / 10 : Nat) : Int) := by
 have e : (-(T : Int) + x) = -((T - x : Nat) : Int) := by omega
 rw [e, Int.neg_tdiv]
 rfl
theorem head_iff {d : List UInt8} (h : 1 < d.length) (c : UInt8) : d.head? = some c ↔ d[0]'(by omega) = c := by
 cases d with
 |nil => simp at h
 |cons x r => simp
theorem str_empty {d : List UInt8} : ((⟨⟨d⟩⟩ : ByteArray) = ⟨#[]⟩) ↔ d = [] := by
 constructor
 ·intro h; injection h with h; injection h
 ·rintro rfl; rfl
theorem rest13_run {T : Nat} (hT : T = 9223372036854775808) {h : Heap} {neg : Bool} {d : List UInt8} (hd : d.length ≤ 20) :
  swp Tryz.prog rest13 (retQ [.t 2, .t 3] (Ret fun r h' => r = numV (refBody T neg d) ∧ h' = h)) (mk [(4, .bool neg), (5, .string ⟨⟨d⟩⟩)]) [] h := by
 have none_ret : ∀ {r : Option Int}, r = none → numV r = .tuple #[.int .i64 0, .bool false] := by rintro _ rfl; rfl
 have main : ¬ (d = [] ∨ (1 < d.length ∧ d.head? = some 48) ∨ (neg = true ∧ d = [48])) →
   swp Tryz.prog (.seq (.ops f132r9) (.seq (.seq (.ops f132r10) (.block 0 (.loop f132l19)))
    (.seq (.seq (.ops f132r20) (.cond (.tmp 72) (.seq (.ops f132r21) .ret) .skip)) (.seq (.seq (.ops f132r22) (.cond (.tmp 75) (.seq (.ops f132r23) .ret) .skip)) (.seq (.ops f132r24) .ret)))))
    (retQ [.t 2, .t 3] (Ret fun r h' => r = numV (refBody T neg d) ∧ h' = h)) (mk [(4, .bool neg), (5, .string ⟨⟨d⟩⟩)]) [] h := by
  intro hb
  have eb : refBody T neg d = refTail T neg d := by unfold refBody; rw [if_neg hb]
  rw [eb]
  have nn : ∀ {r : Option Nat}, runD T 0 d = r → r = none → numV (refTail T neg d) = .tuple #[.int .i64 0, .bool false] := by
   rintro _ h1 rfl
   unfold refTail
   rw [h1]; rfl
  refine loop_intro (fun p : Nat × Nat => [(4, .bool neg), (5, .string ⟨⟨d⟩⟩), (6, .int .i64 (-(p.2 : Int))), (7, .int .i64 p.1)]) (fun p h' => p.1 ≤ d.length ∧ h' = h ∧ p.2 ≤ T ∧ runD T 0 d = runD T p.2 (d.drop p.1)) (fun p => d.length - p.1) (0, 0)
   ⟨rfl, rfl, rfl, rfl, trivial⟩ ⟨Nat.zero_le _, rfl, Nat.zero_le _, rfl⟩ ?_
  rintro ⟨q, m⟩ h1 ⟨hq, rfl, hm, hrun⟩
  simp only at hq hm hrun
  have hsz : ((⟨⟨d⟩⟩ : ByteArray).size : Int) = d.length := rfl
  refine Ai rfl (Ai (fun hlt => ?_) (fun hge => ?_))
  ·have hlt : q < d.length := by simp only at hlt; omega
   have hc := at_get hlt
   have hdr := drop_at hlt
   obtain ⟨c, hcc⟩ : ∃ c, c = d[q] := ⟨_, rfl⟩
   rw [← hcc] at hc hdr
   rw [hdr, runD_cons] at hrun
   refine Ei c (Ai (by simp only; omega) (Ai (by simpa using hc) ?_))
   refine Ai rfl (Ai (fun h48 => ?_) (fun h48 => ?_))
   ·rw [if_neg (by omega)] at hrun
    rw [nn hrun rfl]
    exact Ai rfl rfl
   ·refine Ei c (Ai (by simp only; omega) (Ai (by simpa using hc) ?_))
    refine Ai rfl (Ai (fun h57 => ?_) (fun h57 => ?_))
    ·rw [if_neg (by omega)] at hrun
     rw [nn hrun rfl]
     exact Ai rfl rfl
    ·rw [if_pos ⟨by omega, by omega⟩] at hrun
     refine Ei c (Ai (by simp only; omega) (Ai (by simpa using hc) ?_))
     refine Ai rfl (fun z hz => ?_)
     have hz : z = ((c.toNat - 48 : Nat) : Int) := by
      have e : z = IntKind.u8.wrap ((c.toNat : Int) - 48) := hz
      rw [e, wrapU8 (by omega) (by omega)]; omega
     subst hz
     refine fun z2 hz2 => ?_
     have hz2 : z2 = ((c.toNat - 48 : Nat) : Int) := by rw [hz2]; exact wrap_in (by omega) (by omega)
     subst hz2
     have hx : c.toNat - 48 ≤ 9 := by omega
     obtain ⟨x, hxe⟩ : ∃ x, x = c.toNat - 48 := ⟨_, rfl⟩
     have hnx : nxt m c = m * 10 + x := by rw [nxt_eq, hxe]
     rw [hnx] at hrun
     rw [← hxe] at hx ⊢
     refine Ai rfl (fun z3 hz3 => ?_)
     have hz3 : z3 = -(T : Int) + x := by
      have := add_in hz3 (by omega) (by omega)
      rw [this]; omega
     subst hz3
     refine Ai rfl (Ai (by decide) (fun z4 hz4 => ?_))
     have hz4 : z4 = -(((T - x) / 10 : Nat) : Int) := by
      rw [hz4, quo10 (by omega)]
      exact wrap_in (by omega) (by omega)
     subst hz4
     refine Ai rfl (Ai (fun hover => ?_) (fun hok => ?_))
     ·simp only at hover
      rw [if_pos (by omega)] at hrun
      rw [nn hrun rfl]
      exact Ai rfl rfl
     ·simp only at hok
      rw [if_neg (by omega)] at hrun
      refine Ai rfl (fun z5 hz5 => ?_)
      have hz5 : z5 = -((m * 10 : Nat) : Int) := by
       have e : z5 = IntKind.i64.wrap (-(m : Int) * 10) := hz5
       rw [e, wrap_in (by omega) (by omega)]; omega
      subst hz5
      refine Ai rfl (fun z6 hz6 => ?_)
      have hz6 : z6 = -((m * 10 + x : Nat) : Int) := by
       have := sub_in hz6 (by omega) (by omega)
       rw [this]; omega
      subst hz6
      refine Ai rfl (fun z7 hz7 => ?_)
      have hz7 := add_in hz7 (by simp only; omega) (by simp only; omega)
      subst hz7
      exact Ai rfl (Ei (q + 1, m * 10 + x) (Ai ⟨rfl, rfl, rfl, rfl, trivial⟩ (Ai ⟨hlt, rfl, by simp only; omega, hrun⟩ (by simp only; omega))))
  ·have hge : q = d.length := by simp only at hge; omega
   subst hge
   rw [List.drop_length, runD_nil] at hrun
   have et : refTail T neg d = if neg then some (-(m : Int)) else if m = T then none else some m := by unfold refTail; rw [hrun]
   cases neg with
   |true =>
    rw [et]
    exact Ai rfl rfl
   |false =>
    refine Ai rfl (Ai (fun he => ?_) (fun hne => ?_))
    ·have : m = T := by simp only at he; omega
     rw [et]
     simp only [Bool.false_eq_true, if_false, if_pos this]
     exact Ai rfl rfl
    ·have hmne : m ≠ T := by simp only at hne; omega
     refine fun z hz => ?_
     have hz : z = (m : Int) := by
      rw [hz, wrap_in (by simp only; omega) (by simp only; omega)]; simp only; omega
     subst hz
     rw [et]
     simp only [Bool.false_eq_true, if_false, if_neg hmne]
     exact Ai rfl rfl
 have dead : (d = [] ∨ (1 < d.length ∧ d.head? = some 48) ∨ (neg = true ∧ d = [48])) → numV (refBody T neg d) = .tuple #[.int .i64 0, .bool false] := fun hb => by
  unfold refBody; rw [if_pos hb]; rfl
 have cut : ∀ {σ : Env}, ¬ (d = [] ∨ (1 < d.length ∧ d.head? = some 48) ∨ (neg = true ∧ d = [48])) → σ 4 = some (.bool neg) → σ 5 = some (.string ⟨⟨d⟩⟩) → _ := fun {σ} hb h4 h5 => cut_at (σ := σ) [(4, .bool neg), (5, .string ⟨⟨d⟩⟩)] ⟨h4, h5, trivial⟩ (main hb)
 refine Ai (fun he => ?_) (fun hne => ?_)
 ·rw [dead (.inl (str_empty.1 he))]
  exact Ai rfl rfl
 ·have hne : d ≠ [] := fun e => hne (str_empty.2 e)
  have hpos := List.length_pos_iff.2 hne
  refine Ai rfl (Ai (fun h1 => ?_) (fun h1 => ?_))
  ·have h1 : 1 < d.length := by
    have e : ((⟨⟨d⟩⟩ : ByteArray).size : Int) = d.length := rfl
    rw [e] at h1; omega
   refine Ei d[0] (Ai (by decide) (Ai (at_get (by omega)) ?_))
   refine Ai rfl (Ai (fun h48 => ?_) (fun h48 => ?_))
   ·have : d.head? = some 48 := (head_iff h1 48).2 (UInt8.toNat_inj.1 (by have h48 : (d[0].toNat : Int) = 48 := h48; show d[0].toNat = 48; omega))
    rw [dead (.inr (.inl ⟨h1, this⟩))]
    exact Ai rfl rfl
   ·have hh : ¬ d.head? = some 48 := fun e => h48 (by rw [(head_iff h1 48).1 e]; rfl)
    cases neg with
    |true =>
     refine Ai (fun he => ?_) (fun hne2 => ?_)
     ·have : d = [48] := by injection he with he; injection he
      rw [dead (.inr (.inr ⟨rfl, this⟩))]
      exact Ai rfl rfl
     ·refine cut ?_ rfl rfl
      rintro (h | ⟨_, h⟩ | ⟨_, h⟩)
      ·exact hne h
      ·exact hh h
      ·rw [h] at h1; simp at h1
    |false =>
     refine cut ?_ rfl rfl
     rintro (h | ⟨_, h⟩ | ⟨h, _⟩)
     ·exact hne h
     ·exact hh h
     ·cases h
  ·have h1 : ¬ 1 < d.length := by
    have e : ((⟨⟨d⟩⟩ : ByteArray).size : Int) = d.length := rfl
    rw [e] at h1; omega
   cases neg with
   |true =>
    refine Ai (fun he => ?_) (fun hne2 => ?_)
    ·have : d = [48] := by injection he with he; injection he
     rw [dead (.inr (.inr ⟨rfl, this⟩))]
     exact Ai rfl rfl
    ·refine cut ?_ rfl rfl
     rintro (h | ⟨h, _⟩ | ⟨_, h⟩)
     ·exact hne h
     ·exact h1 h
     ·subst h; exact hne2 rfl
   |false =>
    refine cut ?_ rfl rfl
    rintro (h | ⟨h, _⟩ | ⟨h, _⟩)
    ·exact hne h
    ·exact h1 h
    ·cases h
theorem ops_mv {P : Program} {x : Operand} {d : Nat} {c : SCode} {Q : Post} {σ : Env} {ds : List Deferred} {h : Heap} {v : Value} (he : ev σ x = some v) (hs : swp P c Q (upd σ (some d) v) ds h) :
  swp P (.seq (.ops [⟨some d, none, .mv x⟩]) c) Q σ ds h := by
 simp only [swp, sops, sopr, sop, he]
 exact hs
theorem ops_mv2 {P : Program} {x y : Operand} {d e : Nat} {c : SCode} {Q : Post} {σ : Env} {ds : List Deferred} {h : Heap} {v w : Value} (he : ev σ x = some v) (hf : ev (upd σ (some d) v) y = some w) (hs : swp P c Q (upd (upd σ (some d) v) (some e) w) ds h) :
  swp P (.seq (.ops [⟨some d, none, .mv x⟩, ⟨some e, none, .mv y⟩]) c) Q σ ds h := by
 simp only [swp, sops, sopr, sop, he, hf]
 exact hs
theorem mv_end {P : Program} {F : List PanicEntry → Heap → Prop} {x : Operand} {d : Nat} {c : SCode} {Q : Post} {σ : Env} {ds : List Deferred} {h : Heap} {v : Value} (he : ev σ x = some v) (hs : swp P c Q (upd σ (some d) v) ds h) :
  sops P F (fun σ' h' => thenQ (swp P c Q) Q .normal σ' ds h') [⟨some d, none, .mv x⟩] σ h := by
 simp only [sops, sopr, sop, he]
 exact hs
theorem cond_go {P : Program} {x : Operand} {a b c : SCode} {Q : Post} {σ : Env} {ds : List Deferred} {h : Heap} {t : Bool} (he : ev σ x = some (.bool t)) (hs : swp P (.seq (bif t then a else b) c) Q σ ds h) : swp P (.seq (.cond x a b) c) Q σ ds h := by
 cases t with
 |true => simp only [swp, he]; exact hs
 |false => simp only [swp, he]; exact hs
theorem assoc_go {P : Program} {a b c : SCode} {Q : Post} {σ : Env} {ds : List Deferred} {h : Heap} (hs : swp P (.seq a (.seq b c)) Q σ ds h) : swp P (.seq (.seq a b) c) Q σ ds h := by
 have e : thenQ (swp P b (thenQ (swp P c Q) Q)) (thenQ (swp P c Q) Q) = thenQ (swp P b (thenQ (swp P c Q) Q)) Q := by
  funext x; cases x <;> rfl
 simp only [swp] at hs ⊢
 rw [e]; exact hs
theorem skip_go {P : Program} {c : SCode} {Q : Post} {σ : Env} {ds : List Deferred} {h : Heap} (hs : swp P c Q σ ds h) : swp P (.seq .skip c) Q σ ds h := hs
def sgn : SCode := .seq (.ops f132r4) (.seq (.seq (.ops f132r5) (.cond (.tmp 20) (.ops f132r6) .skip)) rest13)
theorem sign_neg {T : Nat} (hT : T = 9223372036854775808) {h : Heap} {r : List UInt8} (h20 : (45 :: r : List UInt8).length ≤ 20) :
  swp Tryz.prog sgn (retQ [.t 2, .t 3] (Ret fun r' h' => r' = numV (refBody T true r) ∧ h' = h)) (mk [(0, .string ⟨⟨45 :: r⟩⟩), (4, .bool true)]) [] h := by
 unfold sgn
 have hsz : (⟨⟨45 :: r⟩⟩ : ByteArray).size = r.length + 1 := rfl
 refine ops_mv2 rfl rfl ?_
 refine assoc_go ?_
 refine ops_mv rfl ?_
 refine cond_go (t := true) rfl ?_
 refine Ai (by decide) (Ai (by rw [hsz]; omega) (Ai (by rw [hsz]; omega) ?_))
 have ex : (⟨⟨45 :: r⟩⟩ : ByteArray).extract (Int.toNat 1) (Int.toNat ((⟨⟨45 :: r⟩⟩ : ByteArray).size : Nat)) = ⟨⟨r⟩⟩ := by
  apply ByteArray.ext
  rw [ByteArray.data_extract]
  apply Array.ext'
  rw [Array.toList_extract, hsz]
  simp
 exact cut_at [(4, .bool true), (5, .string ⟨⟨r⟩⟩)] ⟨rfl, by rw [← ex]; rfl, trivial⟩ (rest13_run hT (by simp at h20; omega))
theorem sign_pos {T : Nat} (hT : T = 9223372036854775808) {h : Heap} {d : List UInt8} (h20 : d.length ≤ 20) :
  swp Tryz.prog sgn (retQ [.t 2, .t 3] (Ret fun r' h' => r' = numV (refBody T false d) ∧ h' = h)) (mk [(0, .string ⟨⟨d⟩⟩), (4, .bool false)]) [] h := by
 unfold sgn
 refine ops_mv2 rfl rfl ?_
 refine assoc_go ?_
 refine ops_mv rfl ?_
 refine cond_go (t := false) rfl ?_
 refine skip_go ?_
 exact cut_at [(4, .bool false), (5, .string ⟨⟨d⟩⟩)] ⟨rfl, rfl, trivial⟩ (rest13_run hT h20)
theorem ref_cons {T : Nat} {c : UInt8} {r : List UInt8} (h20 : (c :: r).length ≤ 20) : refNum T (c :: r) = (if c = 45 then refBody T true r else refBody T false (c :: r)) := by
 have hnb : ¬ (c :: r = [] ∨ 20 < (c :: r).length) := by
  rintro (h | h)
  ·cases h
  ·omega
 unfold refNum
 rw [if_neg hnb]
 by_cases hc : c = 45
 ·subst hc; rw [if_pos (show (45 :: r : List UInt8).head? = some 45 from rfl), if_pos rfl]; rfl
 ·rw [if_neg hc, if_neg (by simpa using hc)]
theorem r3_run {T : Nat} (hT : T = 9223372036854775808) {h : Heap} {c : UInt8} {r : List UInt8} (h20 : (c :: r).length ≤ 20) :
  swp Tryz.prog (.seq (.ops f132r3) sgn) (retQ [.t 2, .t 3] (Ret fun r' h' => r' = numV (refNum T (c :: r)) ∧ h' = h)) (mk [(0, .string ⟨⟨c :: r⟩⟩)]) [] h := by
 rw [ref_cons h20]
 refine Ei c (Ai (by decide) (Ai (at_get (d := c :: r) (q := 0) (by simp)) ?_))
 refine Ai rfl (Ai (fun h45 => ?_) (fun h45 => ?_))
 ·have hc : c = 45 := UInt8.toNat_inj.1 (by have h45 : (c.toNat : Int) = 45 := h45; show c.toNat = 45; omega)
  subst hc
  rw [if_pos rfl]
  refine mv_end (v := .bool true) ?_ ?_
  ·exact rfl
  exact cut_at [(0, .string ⟨⟨45 :: r⟩⟩), (4, .bool true)] ⟨rfl, rfl, trivial⟩ (sign_neg hT h20)
 ·have hc : ¬ c = 45 := by
   intro e; subst e; exact h45 rfl
  rw [if_neg hc]
  refine mv_end (v := .bool false) ?_ ?_
  ·exact rfl
  exact cut_at [(0, .string ⟨⟨c :: r⟩⟩), (4, .bool false)] ⟨rfl, rfl, trivial⟩ (sign_pos hT h20)
theorem r8num_calls {T : Nat} (hT : T = 9223372036854775808) {h : Heap} {l : List UInt8} (hs : l.length < 4611686018427387904) :
  CallsH Tryz.prog 132 [.string ⟨⟨l⟩⟩] h (Ret fun r h' => r = numV (refNum T l) ∧ h' = h) := by
 refine f132_calls (by simp) ?_
 have hsz : ((⟨⟨l⟩⟩ : ByteArray).size : Int) = l.length := rfl
 have dead : (l = [] ∨ 20 < l.length) → numV (refNum T l) = .tuple #[.int .i64 0, .bool false] := fun hb => by
  unfold refNum; rw [if_pos hb]; rfl
 refine Ai (fun he => ?_) (fun hne => ?_)
 ·rw [dead (.inl (str_empty.1 he))]
  exact Ai rfl rfl
 ·have hne : l ≠ [] := fun e => hne (str_empty.2 e)
  refine Ai rfl (Ai (fun h20 => ?_) (fun h20 => ?_))
  ·rw [dead (.inr (by rw [hsz] at h20; omega))]
   exact Ai rfl rfl
  ·have h20 : l.length ≤ 20 := by rw [hsz] at h20; omega
   obtain ⟨c, r, rfl⟩ := List.exists_cons_of_ne_nil hne
   exact cut_at [(0, .string ⟨⟨c :: r⟩⟩)] ⟨rfl, trivial⟩ (r3_run hT h20)
end Go.Proofs.YtjnijlnmbjjgpaaGreatDoor
set_option maxRecDepth 100000
namespace Go.Proofs.YtjnijlnmbjjgpaaGreatDoor.C
open Go Go.Sx Go.Sx.S
end Go.Proofs.YtjnijlnmbjjgpaaGreatDoor.C
set_option maxRecDepth 100000
namespace Go.Proofs.YtjnijlnmbjjgpaaGreatDoor.C
open Go Go.Sx Go.Sx.S
def f27r0 : LS := [o 2 (.box (t 0)),o 3 (.box (t 1)),o 4 (.mv (b false))]
def f27r1 : LS := [o 6 (.fa 0 (t 2)),o 7 (.ld1 (t 6)),o 8 (.fa 0 (t 3)),o 9 (.ld1 (t 8)),o 10 (.cmp .neq (t 7) (t 9)),o 11 (.mv (t 10)),
 n 12 11 (.fa 1 (t 2)),
 n 13 11 (.ld1 (t 12)),
 n 14 11 (.fa 1 (t 3)),
 n 15 11 (.ld1 (t 14)),
 n 16 11 (.cmp .neq (t 13) (t 15)),o 17 (.pick (t 11) (b true) (t 16)),o 18 (.mv (t 17)),
 n 19 18 (.fa 2 (t 2)),
 n 20 18 (.ld1 (t 19)),
 n 21 18 (.fa 2 (t 3)),
 n 22 18 (.ld1 (t 21)),
 n 23 18 (.cmp .neq (t 20) (t 22)),o 24 (.pick (t 18) (b true) (t 23)),o 25 (.mv (t 24)),
 n 26 25 (.fa 3 (t 2)),
 n 27 25 (.ld1 (t 26)),
 n 28 25 (.len (t 27)),
 n 29 25 (.fa 3 (t 3)),
 n 30 25 (.ld1 (t 29)),
 n 31 25 (.len (t 30)),
 n 32 25 (.cmp .neq (t 28) (t 31)),o 33 (.pick (t 25) (b true) (t 32))]
def f27r2 : LS := [o 4 (.mv (b false))]
def f27r3 : LS := [o 5 (.mv (i 0))]
def f27r4 : LS := [o 34 (.mv (t 5)),o 35 (.fa 3 (t 2)),o 36 (.ld1 (t 35)),o 37 (.len (t 36)),o 38 (.cmp .lss (t 34) (t 37))]
def f27r5 : LS := [o 41 (.fa 3 (t 2)),o 42 (.ld1 (t 41)),o 43 (.mv (t 5)),o 44 (.ixs 4 (t 42) (t 43)),o 45 (.ldn 4 (t 44)),o 46 (.fa 3 (t 3)),o 47 (.ld1 (t 46)),o 48 (.mv (t 5)),o 49 (.ixs 4 (t 47) (t 48)),o 50 (.ldn 4 (t 49)),o 51 (.call 27 [(t 45), (t 50)]),o 52 (.un .not (t 51))]
def f27r6 : LS := [o 4 (.mv (b false))]
def f27r7 : LS := [o 39 (.mv (t 5)),o 40 (.ar .add (t 39) (i 1)),o 5 (.mv (t 40))]
def f27l8 : SCode := (.seq (.seq (.ops f27r4) (.cond (t 38) .skip (.exit 0))) (.seq (.block 1 (.seq (.ops f27r5) (.cond (t 52) (.seq (.ops f27r6) .ret) .skip))) (.ops f27r7)))
def f27r9 : LS := [o 4 (.mv (b true))]
def f27 : SCode := (.seq (.ops f27r0) (.seq (.seq (.ops f27r1) (.cond (t 33) (.seq (.ops f27r2) .ret) .skip)) (.seq (.seq (.ops f27r3) (.block 0 (.loop f27l8))) (.seq (.ops f27r9) .ret))))
theorem f27_calls : Sound Tryz.prog 27 53 f27 [.t 4] := sound_of mixed Tryz.func27 rfl (by kernel_rfl) (by kernel_rfl) (by kernel_rfl)
def f32r0 : LS := [o 4 (.mv (b false))]
def f32r1 : LS := [o 6 (.mv (t 0)),o 7 (.len (t 6)),o 8 (.mv (t 1)),o 9 (.len (t 8)),o 10 (.cmp .neq (t 7) (t 9))]
def f32r2 : LS := [o 4 (.mv (b false))]
def f32r3 : LS := [o 5 (.mv (i 0))]
def f32r4 : LS := [o 11 (.mv (t 5)),o 12 (.mv (t 0)),o 13 (.len (t 12)),o 14 (.cmp .lss (t 11) (t 13))]
def f32r5 : LS := [o 17 (.mv (t 0)),o 18 (.mv (t 5)),o 19 (.ixs 5 (t 17) (t 18)),o 20 (.ldn 5 (t 19)),o 21 (.mv (t 1)),o 22 (.mv (t 5)),o 23 (.ixs 5 (t 21) (t 22)),o 24 (.ldn 5 (t 23)),o 25 (.eqa true [(.int .i64), .str, .str, .str, (.int .i64)] (t 20) (t 24))]
def f32r6 : LS := [o 4 (.mv (b false))]
def f32r7 : LS := [o 15 (.mv (t 5)),o 16 (.ar .add (t 15) (i 1)),o 5 (.mv (t 16))]
def f32l8 : SCode := (.seq (.seq (.ops f32r4) (.cond (t 14) .skip (.exit 0))) (.seq (.block 1 (.seq (.ops f32r5) (.cond (t 25) (.seq (.ops f32r6) .ret) .skip))) (.ops f32r7)))
def f32r9 : LS := [o 4 (.mv (b true))]
def f32 : SCode := (.seq (.ops f32r0) (.seq (.seq (.ops f32r1) (.cond (t 10) (.seq (.ops f32r2) .ret) .skip)) (.seq (.seq (.ops f32r3) (.block 0 (.loop f32l8))) (.seq (.ops f32r9) .ret))))
theorem f32_calls : Sound Tryz.prog 32 26 f32 [.t 4] := sound_of mixed Tryz.func32 rfl (by kernel_rfl) (by kernel_rfl) (by kernel_rfl)
def f49r0 : LS := [o 2 (.new [(.int .i64 0), (.int .i64 0), (.string ⟨#[]⟩), (.slice none 0 0)])]
def f49r1 : LS := [o 3 (.mv (t 0)),o 4 (.build [(.int .i64 0), (.int .i64 0), (.string ⟨#[]⟩), (.slice none 0 0)] [(0, 1), (2, 1)] [(i 2), (t 3)]),
 q (.st 4 (t 2) (t 4))]
def f49 : SCode := (.seq (.ops f49r0) (.seq (.ops f49r1) .ret))
theorem f49_calls : Sound Tryz.prog 49 5 f49 [.cn 2 4] := sound_of mixed Tryz.func49 rfl (by kernel_rfl) (by kernel_rfl) (by kernel_rfl)
def f54r0 : LS := [o 2 (.mv e)]
def f54r1 : LS := [o 5 (.mv (t 0)),o 6 (.byts (t 5)),o 3 (.mv (t 6))]
def f54r2 : LS := [o 4 (.mv (i 0))]
def f54r3 : LS := [o 7 (.mv (t 4)),o 8 (.mv (t 3)),o 9 (.len (t 8)),o 10 (.cmp .lss (t 7) (t 9))]
def f54r4 : LS := [o 13 (.mv (t 3)),o 14 (.mv (t 4)),o 15 (.ixs 1 (t 13) (t 14)),o 16 (.ld1 (t 15)),o 17 (.cmp .geq (t 16) (.const (.int .u8 97))),o 18 (.mv (t 17)),
 g 19 18 (.mv (t 3)),
 g 20 18 (.mv (t 4)),
 g 21 18 (.ixs 1 (t 19) (t 20)),
 g 22 18 (.ld1 (t 21)),
 g 23 18 (.cmp .leq (t 22) (.const (.int .u8 122))),o 24 (.pick (t 18) (t 23) (b false))]
def f54r5 : LS := [o 25 (.mv (t 3)),o 26 (.mv (t 4)),o 27 (.mv (t 3)),o 28 (.mv (t 4)),o 29 (.ixs 1 (t 27) (t 28)),o 30 (.ld1 (t 29)),o 31 (.ar .sub (t 30) (.const (.int .u8 32))),o 32 (.ixs 1 (t 25) (t 26)),
 q (.stb (t 32) (t 31))]
def f54r6 : LS := [o 11 (.mv (t 4)),o 12 (.ar .add (t 11) (i 1)),o 4 (.mv (t 12))]
def f54l7 : SCode := (.seq (.seq (.ops f54r3) (.cond (t 10) .skip (.exit 0))) (.seq (.block 1 (.seq (.ops f54r4) (.cond (t 24) (.ops f54r5) .skip))) (.ops f54r6)))
def f54r8 : LS := [o 33 (.mv (t 3)),o 34 (.bstr (t 33)),o 2 (.mv (t 34))]
def f54 : SCode := (.seq (.ops f54r0) (.seq (.ops f54r1) (.seq (.seq (.ops f54r2) (.block 0 (.loop f54l7))) (.seq (.ops f54r8) .ret))))
theorem f54_calls : Sound Tryz.prog 54 35 f54 [.t 2] := sound_of mixed Tryz.func54 rfl (by kernel_rfl) (by kernel_rfl) (by kernel_rfl)
def f56r0 : LS := [o 6 (.mv (b false))]
def f56r1 : LS := [o 7 (.mv (t 0)),o 8 (.nilck (t 7)),o 9 (.fa 2 (t 8)),o 10 (.ld1 (t 9)),o 11 (.len (t 10)),o 12 (.mv (t 1)),o 13 (.cmp .lss (t 11) (t 12)),o 14 (.mv (t 13)),
 n 15 14 (.mv (t 0)),
 n 16 14 (.nilck (t 15)),
 n 17 14 (.fa 2 (t 16)),
 n 18 14 (.ld1 (t 17)),
 n 19 14 (.len (t 18)),
 n 20 14 (.mv (t 2)),
 n 21 14 (.cmp .gtr (t 19) (t 20)),o 22 (.pick (t 14) (b true) (t 21))]
def f56r2 : LS := [o 23 (.mv (t 0)),o 24 (.nilck (t 23)),o 25 (.fa 4 (t 24)),
 q (.st 1 (t 25) (.const (.string ⟨#[69, 82, 82, 32, 97, 114, 103, 115]⟩)))]
def f56r3 : LS := [o 6 (.mv (b false))]
def f56r4 : LS := [o 6 (.mv (b true))]
def f56 : SCode := (.seq (.ops f56r0) (.seq (.seq (.ops f56r1) (.cond (t 22) (.seq (.ops f56r2) (.seq (.ops f56r3) .ret)) .skip)) (.seq (.ops f56r4) .ret)))
theorem f56_calls : Sound Tryz.prog 56 26 f56 [.t 6] := sound_of mixed Tryz.func56 rfl (by kernel_rfl) (by kernel_rfl) (by kernel_rfl)
def f121r0 : LS := [o 4 (.mv (i 0)),o 5 (.mv (b false))]
def f121r1 : LS := [o 9 (.mv (t 0)),o 10 (.nilck (t 9)),o 11 (.fa 2 (t 10)),o 12 (.ld1 (t 11)),o 13 (.mv (t 1)),o 14 (.ixs 1 (t 12) (t 13)),o 15 (.ld1 (t 14)),o 16 (.call 132 [(t 15)]),o 8 (.mv (t 16)),o 17 (.ext (t 8) 0),o 18 (.ext (t 8) 1),o 6 (.mv (t 17)),o 7 (.mv (t 18))]
def f121r2 : LS := [o 19 (.mv (t 7)),o 20 (.un .not (t 19))]
def f121r3 : LS := [o 21 (.mv (t 0)),o 22 (.nilck (t 21)),o 23 (.fa 4 (t 22)),
 q (.st 1 (t 23) (.const (.string ⟨#[69, 82, 82, 32, 110, 117, 109, 98, 101, 114]⟩)))]
def f121r4 : LS := [o 24 (.mv (t 6)),o 25 (.mv (t 7)),o 4 (.mv (t 24)),o 5 (.mv (t 25))]
def f121 : SCode := (.seq (.ops f121r0) (.seq (.ops f121r1) (.seq (.seq (.ops f121r2) (.cond (t 20) (.ops f121r3) .skip)) (.seq (.ops f121r4) .ret))))
theorem f121_calls : Sound Tryz.prog 121 26 f121 [.t 4, .t 5] := sound_of mixed Tryz.func121 rfl (by kernel_rfl) (by kernel_rfl) (by kernel_rfl)
def f124r0 : LS := [o 6 (.new [(.int .i64 0), (.string ⟨#[]⟩), (.slice none 0 0), (.slice none 0 0), (.slice none 0 0), (.bool false), (.int .i64 0)]),o 7 (.mv (b false)),o 8 (.mv (b false))]
def f124p1 : LS := [o 12 (.mv (t 0)),o 13 (.nilck (t 12)),o 14 (.fa 0 (t 13)),o 15 (.ld1 (t 14)),o 16 (.mv (t 1)),o 17 (.mv (t 0)),o 18 (.nilck (t 17)),o 19 (.fa 1 (t 18)),o 20 (.ld1 (t 19))]
def f124r1 : LS := [o 21 (.callq 207 [(t 15), (t 16), (t 20)]),o 11 (.mv (t 21)),o 22 (.ext (t 11) 0),o 23 (.ext (t 11) 1),o 9 (.new [(.int .i64 0), (.string ⟨#[]⟩), (.slice none 0 0), (.slice none 0 0), (.slice none 0 0), (.bool false), (.int .i64 0)]),
 q (.st 7 (t 9) (t 22)),o 10 (.mv (t 23))]
def f124s1 : LS := [o 9 (.new [(.int .i64 0), (.string ⟨#[]⟩), (.slice none 0 0), (.slice none 0 0), (.slice none 0 0), (.bool false), (.int .i64 0)]),o 21 (.callq 207 [(t 15), (t 16), (t 20)]),o 11 (.mv (t 21)),o 22 (.ext (t 11) 0),o 23 (.ext (t 11) 1),
 q (.st 7 (t 9) (t 22)),o 10 (.mv (t 23))]
def f124r2 : LS := [o 24 (.mv (t 10)),o 25 (.mv (t 24)),
 g 26 25 (.fa 0 (t 9)),
 g 27 25 (.ld1 (t 26)),
 g 28 25 (.mv (t 2)),
 g 29 25 (.cmp .neq (t 27) (t 28)),o 30 (.pick (t 25) (t 29) (b false))]
def f124r3 : LS := [o 31 (.mv (t 0)),o 32 (.nilck (t 31)),o 33 (.fa 4 (t 32)),
 q (.st 1 (t 33) (.const (.string ⟨#[87, 82, 79, 78, 71, 84, 89, 80, 69]⟩)))]
def f124r4 : LS := [o 34 (.ldn 7 (t 9)),o 35 (.mv (t 10)),
 q (.st 7 (t 6) (t 34)),o 7 (.mv (t 35)),o 8 (.mv (b false))]
def f124r5 : LS := [o 36 (.ldn 7 (t 9)),o 37 (.mv (t 10)),
 q (.st 7 (t 6) (t 36)),o 7 (.mv (t 37)),o 8 (.mv (b true))]
def f124 : SCode := (.seq (.ops f124r0) (.seq (.two f124p1 f124r1 f124s1) (.seq (.seq (.ops f124r2) (.cond (t 30) (.seq (.ops f124r3) (.seq (.ops f124r4) .ret)) .skip)) (.seq (.ops f124r5) .ret))))
theorem f124_calls : Sound Tryz.prog 124 38 f124 [.cn 6 7, .t 7, .t 8] := sound_of mixed Tryz.func124 rfl (by kernel_rfl) (by kernel_rfl) (by kernel_rfl)
def f128r0 : LS := [o 2 (.new [(.int .i64 0), (.int .i64 0), (.string ⟨#[]⟩), (.slice none 0 0)])]
def f128r1 : LS := [o 3 (.mv (t 0)),o 4 (.build [(.int .i64 0), (.int .i64 0), (.string ⟨#[]⟩), (.slice none 0 0)] [(0, 1), (1, 1)] [(i 3), (t 3)]),
 q (.st 4 (t 2) (t 4))]
def f128 : SCode := (.seq (.ops f128r0) (.seq (.ops f128r1) .ret))
theorem f128_calls : Sound Tryz.prog 128 5 f128 [.cn 2 4] := sound_of mixed Tryz.func128 rfl (by kernel_rfl) (by kernel_rfl) (by kernel_rfl)
def f130r0 : LS := [o 2 (.new [(.int .i64 0), (.int .i64 0), (.string ⟨#[]⟩), (.slice none 0 0)])]
def f130r1 : LS := [o 3 (.mv (t 0)),o 4 (.build [(.int .i64 0), (.int .i64 0), (.string ⟨#[]⟩), (.slice none 0 0)] [(0, 1), (2, 1)] [(i 4), (t 3)]),
 q (.st 4 (t 2) (t 4))]
def f130 : SCode := (.seq (.ops f130r0) (.seq (.ops f130r1) .ret))
theorem f130_calls : Sound Tryz.prog 130 5 f130 [.cn 2 4] := sound_of mixed Tryz.func130 rfl (by kernel_rfl) (by kernel_rfl) (by kernel_rfl)
def f220r0 : LS := [o 9 (.mv (t 0)),o 10 (.nilck (t 9)),o 11 (.fa 0 (t 10)),o 12 (.ld1 (t 11)),o 13 (.mv (t 1)),o 14 (.call 46 [(t 12), (t 13)]),o 8 (.mv (t 14)),o 15 (.ext (t 8) 0),o 16 (.ext (t 8) 1),o 4 (.mv (t 15)),o 5 (.mv (t 16))]
def f220p1 : LS := [o 18 (.mv (t 0)),o 19 (.nilck (t 18)),o 20 (.fa 0 (t 19)),o 21 (.ld1 (t 20)),o 22 (.mv (t 1)),o 23 (.mv (t 0)),o 24 (.nilck (t 23)),o 25 (.fa 1 (t 24)),o 26 (.ld1 (t 25))]
def f220r1 : LS := [o 27 (.callq 207 [(t 21), (t 22), (t 26)]),o 17 (.mv (t 27)),o 28 (.ext (t 17) 0),o 29 (.ext (t 17) 1),o 6 (.new [(.int .i64 0), (.string ⟨#[]⟩), (.slice none 0 0), (.slice none 0 0), (.slice none 0 0), (.bool false), (.int .i64 0)]),
 q (.st 7 (t 6) (t 28)),o 7 (.mv (t 29))]
def f220s1 : LS := [o 6 (.new [(.int .i64 0), (.string ⟨#[]⟩), (.slice none 0 0), (.slice none 0 0), (.slice none 0 0), (.bool false), (.int .i64 0)]),o 27 (.callq 207 [(t 21), (t 22), (t 26)]),o 17 (.mv (t 27)),o 28 (.ext (t 17) 0),o 29 (.ext (t 17) 1),
 q (.st 7 (t 6) (t 28)),o 7 (.mv (t 29))]
def f220r2 : LS := [o 30 (.mv (t 5)),o 31 (.mv (t 30)),
 g 32 31 (.mv (t 7)),
 g 33 31 (.un .not (t 32)),o 34 (.pick (t 31) (t 33) (b false))]
def f220r3 : LS := [o 35 (.mv (t 0)),o 36 (.mv (t 0)),o 37 (.nilck (t 36)),o 38 (.fa 3 (t 37)),o 39 (.ld1 (t 38)),o 40 (.mv (t 1)),o 41 (.build [(.int .i64 0), (.string ⟨#[]⟩), (.string ⟨#[]⟩), (.string ⟨#[]⟩), (.int .i64 0)] [(0, 1), (1, 1)] [(i 1), (t 40)]),o 42 (.bslice [(.int .i64 0), (.string ⟨#[]⟩), (.string ⟨#[]⟩), (.string ⟨#[]⟩), (.int .i64 0)] 1 [(0, 5)] [(t 41)]),o 43 (.app 5 64 [(.int .i64 0), (.string ⟨#[]⟩), (.string ⟨#[]⟩), (.string ⟨#[]⟩), (.int .i64 0)] (t 39) (t 42)),o 44 (.nilck (t 35)),o 45 (.fa 3 (t 44)),
 q (.st 1 (t 45) (t 43))]
def f220 : SCode := (.seq (.ops f220r0) (.seq (.two f220p1 f220r1 f220s1) (.seq (.ops f220r2) (.cond (t 34) (.ops f220r3) .skip))))
theorem f220_calls : Sound Tryz.prog 220 46 f220 [] := sound_of mixed Tryz.func220 rfl (by kernel_rfl) (by kernel_rfl) (by kernel_rfl)
end Go.Proofs.YtjnijlnmbjjgpaaGreatDoor.C
namespace Go.Proofs.YtjnijlnmbjjgpaaGreatDoor
open Go Go.Sx C
section
variable {h0 h : Heap} {ab kb sb mb c : Nat} {now n : Int} {av lv : Value} {A : List ByteArray} {m : List KI} {S : Space} {key s a : ByteArray} {t : Thing} {go : Option Thing}
theorem mv_go {P : Program} {x : Operand} {d : Nat} {c : SCode} {Q : Post} {σ : Env} {ds : List Deferred} {h : Heap} {v : Value} (he : ev σ x = some v) (hs : swp P c Q (upd σ (some d) v) ds h) :
  swp P (.seq (.ops [⟨some d, none, .mv x⟩]) c) Q σ ds h := by
 simp only [swp, sops, sopr, sop, he]
 exact hs
def TextS (S : Space) : Prop := ∀ p ∈ S, p.2.text.size < 281474976710656
end
end Go.Proofs.YtjnijlnmbjjgpaaGreatDoor
namespace Go.Proofs.YtjnijlnmbjjgpaaGreatDoor
open Go Go.Sx C
section
variable {h0 h : Heap} {ab kb sb mb c : Nat} {now n : Int} {av lv : Value} {A : List ByteArray} {m : List KI} {S : Space} {key s a : ByteArray} {t : Thing} {go : Option Thing} {q : Rep} {E : List Eff}
end
end Go.Proofs.YtjnijlnmbjjgpaaGreatDoor
namespace Go.Proofs.YtjnijlnmbjjgpaaGreatDoor
open Go Go.Sx C
abbrev Res := Except ByteArray (Rep × List Eff)
def numR (n : Int) : Rep := rep 3 n noText
instance memB (k : ByteArray) (l : List ByteArray) : Decidable (k ∈ l) := @List.instDecidableMemOfLawfulBEq _ instBEqOfDecidableEq _ k l
def cntB (k : ByteArray) (l : List ByteArray) : Nat := l.countP fun x => decide (x = k)
theorem cntB_zero {k : ByteArray} {l : List ByteArray} (h : k ∉ l) : cntB k l = 0 := List.countP_eq_zero.2 fun _x hx he => h (of_decide_eq_true he ▸ hx)
theorem cntB_pos {k : ByteArray} {l : List ByteArray} (h : k ∈ l) : 0 < cntB k l := List.countP_pos_iff.2 ⟨k, h, decide_eq_true rfl⟩
theorem cntB_le {k : ByteArray} {l : List ByteArray} : cntB k l ≤ l.length := List.countP_le_length
theorem cntB_snoc {pre : List ByteArray} {k k' : ByteArray} : cntB k' (pre ++ [k]) = cntB k' pre + (if k' = k then 1 else 0) := by
 unfold cntB
 rw [List.countP_append, List.countP_singleton]
 by_cases h : k' = k
 ·rw [if_pos (decide_eq_true h.symm), if_pos h]
 ·rw [if_neg (by simp; exact fun e => h e.symm), if_neg h]
section
variable (S : Space) (now : Int)
end
end Go.Proofs.YtjnijlnmbjjgpaaGreatDoor
namespace Go.Proofs.YtjnijlnmbjjgpaaGreatDoor
open Go Go.Sx C
theorem RGetW_calls {h0 h : Heap} {v : Value} {l : List RX} (key : ByteArray) (now : Int) (hv : SL encX h0 v l) (g : GX h0 l) (hl : l.length < 4611686018427387904) (hk : key.size < 4611686018427387904) (hf : KeysFit l) (hc : Chg [] h0 h) :
  CallsH Tryz.prog 207 [v, .string key, .int .i64 now] h (Ret fun r h' => (∃ us, r = .tuple #[.agg ⟨us⟩, .bool (getX l key now).isSome] ∧ ∀ h2, Chg [] h0 h2 → TH h2 us ((getX l key now).getD zeroT)) ∧ Chg [] h h') := by
 obtain ⟨a, c, rfl, hlc⟩ := hv.form
 refine f207_calls (by simp) ?_
 intro b6 h1 g1
 have B1 : Blk h1 b6 zeroV := g1.blk
 have hv1 := hv.ext (hc.nil g1.chg)
 refine call_ret (Find_calls key hv1 hl hk hf) ?_
 rintro _ h9 ⟨rfl, e9⟩
 have e9 := e9.symm
 subst e9
 have z1 := g1.size
 have i1 := g1.id
 cases hb : (findX key l).2 with
 |false =>
  have hn : getX l key now = none := by unfold getX lookX; rw [if_neg (by rw [hb]; simp)]
  refine Ei _ (Ai B1 (Ai (by decide) (Ai rfl (Ai (thing_one (t := zeroT) (h := h1) zero_TH) ?_))))
  intro h2 p2
  have B2 : Blk h2 b6 zeroV := p2.blk
  refine Ei zeroV (Ai rfl (Ai (cells_blk B2) ?_))
  rw [hn]
  exact Ai (Ei zeroV (Ai rfl (fun _ _ => zero_TH))) (g1.chg.fresh p2.chg (by simp; omega))
 |true =>
  obtain ⟨hlt, _⟩ := findX_hit key l hb
  have hlk : lookX l key = some l[(findX key l).1].thing := by unfold lookX; rw [if_pos hb]; simp [hlt]
  obtain ⟨b, o, rfl⟩ := hv1.addr (by omega)
  generalize (findX key l).1 = i at *
  have hcs := hv1.cells encX_len (i := i) (x := l[i]) (by simp [hlt])
  have hx := (g.ext (hc.nil g1.chg)) l[i] (List.getElem_mem hlt)
  have yes : goneT l[i].thing now = false →
    swp Tryz.prog (.seq (.ops f207r4) .ret) (retQ [.cn 6 7, .t 7] (Ret fun r h' => (∃ us, r = .tuple #[.agg ⟨us⟩, .bool (getX l key now).isSome] ∧ ∀ h2, Chg [] h0 h2 → TH h2 us ((getX l key now).getD zeroT)) ∧ Chg [] h h')) (mk [(6, .pointer (some ⟨b6, 0, none⟩)), (0, .slice (some ⟨b, o, none⟩) l.length c), (8, .int .i64 i)]) [] h1 := by
   intro hg
   have hn : getX l key now = some l[i].thing := by unfold getX; rw [hlk]; simp [hg]
   refine Ai (by omega) (Ai (by omega) (Ei l[i].vs (Ai l[i].len (Ai (cells_vs hcs) ?_))))
   refine Ei _ (Ai B1 (Ai (by decide) (Ai l[i].len (Ai l[i].one ?_))))
   intro h2 p2
   have B2 : Blk h2 b6 l[i].vs := by
    have h8 : Blk h2 b6 (splice zeroV 0 l[i].vs) := p2.blk
    rw [seven rfl l[i].len] at h8
    exact h8
   refine Ei l[i].vs (Ai l[i].len (Ai (cells_blk B2) ?_))
   rw [hn]
   exact Ai (Ei l[i].vs (Ai rfl (fun _ hc => (g l[i] (List.getElem_mem hlt)).ext hc))) (g1.chg.fresh p2.chg (by simp; omega))
  refine Ai (by omega) (Ai (by omega) (Ei _ (Ai (cells_vs hcs 5 _ hx.hasU) ?_)))
  cases hU : l[i].thing.hasU with
  |false =>
   exact cut_at [(6, .pointer (some ⟨b6, 0, none⟩)), (0, .slice (some ⟨b, o, none⟩) l.length c), (8, .int .i64 i)] ⟨rfl, rfl, rfl, trivial⟩ (yes (by unfold goneT; rw [hU]; rfl))
  |true =>
   refine Ai (by omega) (Ai (by omega) (Ei _ (Ai (cells_vs hcs 6 _ hx.unt) ?_)))
   refine Ai rfl (Ai (fun hle => ?_) (fun hle => ?_))
   ·have hn : getX l key now = none := by unfold getX; rw [hlk]; simp [goneT, hU, hle]
    refine Ei _ (Ai B1 (Ai (by decide) (Ai rfl (Ai (thing_one (t := zeroT) (h := h1) zero_TH) ?_))))
    intro h2 p2
    have B2 : Blk h2 b6 zeroV := p2.blk
    refine Ei zeroV (Ai rfl (Ai (cells_blk B2) ?_))
    rw [hn]
    exact Ai (Ei zeroV (Ai rfl (fun _ _ => zero_TH))) (g1.chg.fresh p2.chg (by simp; omega))
   ·exact cut_at [(6, .pointer (some ⟨b6, 0, none⟩)), (0, .slice (some ⟨b, o, none⟩) l.length c), (8, .int .i64 i)] ⟨rfl, rfl, rfl, trivial⟩ (yes (by unfold goneT; rw [hU]; simpa using hle))
def rxE9 (xb : Nat) (rest : List Value) (kv : Value) (now : Int) (av lv : Value) (L : List Eff) (why : ByteArray) : En :=
 .x (xb :: vblk lv) (fun h => Blk h xb (kv :: .int .i64 now :: av :: lv :: .string why :: rest) ∧ OL encD 5 h lv L ∧ xb ∉ vblk lv)
  (fun S h h' hc hn ⟨h1, h2, h3⟩ => ⟨h1.chg hc (hn _ (by simp)), h2.chg hc (fun b hb => hn _ (by simp [hb])), h3⟩)
  (fun h ⟨h1, h2, _⟩ b hb => by
   rcases List.mem_cons.1 hb with rfl | hb
   ·exact h1.lt
   ·exact OL.lt h2 b hb)
structure RC9 (h0 : Heap) (kv : Value) (k : List RX) (av : Value) (A : List ByteArray) : Prop where
 sl : SL encX h0 kv k
 gx : GX h0 k
 up : UpX k
 len : k.length < 4611686018427387904
 fit : KeysFit k
 args : ∀ h', Chg [] h0 h' → SL encS h' av A
def RxO9 (h0 h : Heap) (e : En) (h' : Heap) (e' : En) : Prop := As h0 h' e' ∧ Sx.Own e h e' h'
section
variable {rest : List Value} {h0 h h1 h' : Heap} {xb i : Nat} {now n : Int} {kv av lv : Value} {k : List RX} {A : List ByteArray} {L : List Eff} {why : ByteArray} {M : List En} {T : List Nat} {e e' : En}
theorem RxO9.refl (x : As h0 h e) (hc : Chg [] h h') : RxO9 h0 h e h' e := ⟨x.ext hc, Sx.Own.refl x.at_ hc⟩
theorem _root_.Go.Sx.St.ldr9 {o : Nat} {v : Value} {K : Value → Prop} (w : St T h1 h M) (i : Nat) (hi : M[i]? = some (rxE9 xb rest kv now av lv L why)) (hv : (kv :: .int .i64 now :: av :: lv :: .string why :: rest)[o]? = some v) (k : K v) : ∃ v, cell h xb o = some v ∧ K v := ⟨v, cell_blk (w.get i hi).1 hv, k⟩
theorem _root_.Go.Sx.St.stw9 {K : Heap → Prop} {why2 : ByteArray} (w : St T h1 h M) (i : Nat) (hi : M[i]? = some (rxE9 xb rest kv now av lv L why)) (k : ∀ h', St T h1 h' (M.set i (rxE9 xb rest kv now av lv L why2)) → K h') :
  ∃ l, Blk h xb l ∧ 4 + 1 ≤ l.length ∧ [Value.string why2].length = 1 ∧ (∀ u ∈ [Value.string why2], u.oneCell' = true) ∧ ∀ h', Put h h' xb (splice l 4 [.string why2]) → K h' := by
 obtain ⟨hB, hO, hn⟩ := w.get i hi
 refine ⟨_, hB, by simp, rfl, ones1 rfl, fun h' p => k h' ?_⟩
 have hO2 := hO.chg p.chg (fun b hb => by simp; rintro rfl; exact hn hb)
 exact w.set i hi p.chg (fun b hb => .inl (by simp at hb; simp [rxE9, En.fp, hb])) ⟨by have e := p.blk; simpa [splice] using e, hO2, hn⟩ (fun b hb => .inl hb)
theorem _root_.Go.Sx.St.rapp9 {a a' : Option Addr} {n c m c2 : Nat} {F : List Eff} {z : List Value} {K : Value → Heap → Prop} (w : St T h1 h M) (i : Nat) (hi : M[i]? = some (rxE9 xb rest kv now av (.slice a n c) L why)) (hz : z.length = 5) (hsrc : SL encD h (.slice a' m c2) F) (hb : ((L.length + F.length) * 2 + 768) * 64 ≤ 281474976710656)
  (k : ∀ a3 c3 h', (∀ {K' : Heap → Prop}, (∀ h'', St T h1 h'' (M.set i (rxE9 xb rest kv now av (.slice a3 (L ++ F).length c3) (L ++ F) why)) → K' h'') →
   ∃ l, Blk h' xb l ∧ 3 + 1 ≤ l.length ∧ [Value.slice a3 (L ++ F).length c3].length = 1 ∧ (∀ u ∈ [Value.slice a3 (L ++ F).length c3], u.oneCell' = true) ∧ ∀ h'', Put h' h'' xb (splice l 3 [.slice a3 (L ++ F).length c3]) → K' h'') → K (.slice a3 (L ++ F).length c3) h') : appP h K 5 64 z a n c a' m := by
 obtain ⟨hB, hO, hn⟩ := w.get i hi
 have hlt := hB.lt
 refine app_own encD_len encD_one hz hO hsrc hb fun v' h' ho hc hbv => ?_
 have hxn : xb ∉ vblk v' := fun hm => by
  rcases hbv xb hm with h3 | h3
  ·exact hn h3
  ·omega
 have hB1 := hB.chg hc hn
 obtain ⟨a3, c3, rfl, _⟩ := ho.sl.form
 refine k a3 c3 h' fun {K'} hK => ?_
 refine ⟨_, hB1, by simp, rfl, ones1 rfl, fun h'' p => hK h'' ?_⟩
 have ct : Chg (xb :: ablk a) h h'' := (hc.mono (fun b hb => List.mem_cons_of_mem _ hb)).trans p.chg (fun _ hk => hk) (fun b hb _ => by simp at hb; simp [hb])
 refine w.set i hi ct (fun b hb => .inl hb) ⟨by have e := p.blk; simpa [splice] using e, ho.chg p.chg (fun b hb => by simp; rintro rfl; exact hxn hb), hxn⟩ (fun b hb => ?_)
 rcases List.mem_cons.1 hb with rfl | hb
 ·exact .inl (List.mem_cons_self ..)
 ·rcases hbv b hb with h3 | h3
  ·exact .inl (List.mem_cons_of_mem _ h3)
  ·exact .inr h3
theorem _root_.Go.Sx.St.rform9 (w : St T h1 h M) (i : Nat) (hi : M[i]? = some (rxE9 xb rest kv now av lv L why)) : ∃ a c, lv = .slice a L.length c := by
 obtain ⟨a, c, e, _⟩ := (show OL encD 5 h lv L from (w.get i hi).2.1).sl.form
 exact ⟨a, c, e⟩
theorem RC9.argF (c : RC9 h0 kv k av A) (hi : 0 < A.length) : ∃ b o cc, av = .slice (some ⟨b, o, none⟩) A.length cc := by
 have hs := c.args h0 (Chg.refl _)
 obtain ⟨a, cc, rfl, hcc⟩ := hs.form
 obtain ⟨b, o, rfl⟩ := hs.addr hi
 exact ⟨b, o, cc, rfl⟩
theorem RC9.argN (c : RC9 h0 kv k av A) : ∃ a cc, av = .slice a A.length cc := by
 obtain ⟨a, cc, rfl, hcc⟩ := (c.args h0 (Chg.refl _)).form
 exact ⟨a, cc, rfl⟩
theorem RC9.ix {i : Int} {b o n cc : Nat} {s : ByteArray} {K : Value → Prop} (c : RC9 h0 kv k (.slice (some ⟨b, o, none⟩) n cc) A) (hc : Chg [] h0 h1) (j : Nat) (e : i = j) (hs : A[j]? = some s) (hk : K (.string s)) :
  0 ≤ i ∧ i < (n : Int) ∧ ∃ v, cell h1 b (o + i.toNat * 1) = some v ∧ K v := by
 subst e
 have hj := (List.getElem?_eq_some_iff.1 hs).1
 have hcs := (c.args h1 hc).cells encS_len hs
 have hn := (c.args h1 hc).len.1
 refine ⟨by omega, by omega, _, ?_, hk⟩
 have := hcs 0 _ rfl
 simpa using this
def GetS9 (h0 h : Heap) (f : Nat) (vs : List Value) (go : Option Thing) : Prop :=
 ∀ {h1}, Chg [] h h1 → CallsH Tryz.prog f vs h1 (Ret fun r h' => (∃ pv lv rv, r = .tuple #[.agg ⟨cellsT (go.getD zeroT) pv lv rv⟩, .bool go.isSome] ∧ (∀ u ∈ cellsT (go.getD zeroT) pv lv rv, u.oneCell' = true) ∧ ∀ h2, Chg [] h0 h2 → TH h2 (cellsT (go.getD zeroT) pv lv rv) (go.getD zeroT)) ∧ Chg [] h1 h')
theorem RC9.getS (c : RC9 h0 kv k av A) (hc : Chg [] h0 h) (key : ByteArray) (hk : key.size < 4611686018427387904) : GetS9 h0 h 207 [kv, .string key, .int .i64 now] (getS (k.map RX.pr) key now) := by
 intro h1 c1
 refine (RGetW_calls key now c.sl c.gx c.len hk c.fit (hc.nil c1)).mono ?_
 intro e h' he
 cases e with
 |returned r =>
  obtain ⟨⟨us, rfl, tu⟩, c2⟩ := he
  rw [get_get c.up key now] at tu ⊢
  have ho := thing_one (tu h0 (Chg.refl _))
  obtain ⟨pv, lv, rv, rfl, _⟩ := id (tu h0 (Chg.refl _))
  exact ⟨⟨pv, lv, rv, rfl, ho, tu⟩, c2⟩
 |panicked ch => exact he
 |outgrown => exact he
theorem get_twoR9 {hh : Heap} {σ : Env} {Qp : List PanicEntry → Heap → Prop} {K : Env → Heap → Prop} {f : Nat} {v1 v2 v3 : Value} {go : Option Thing} {c d e0 e1 b v a1 a2 a3 : Nat} (w : St T h0 h M) (get : GetS9 hh h f [v1, v2, v3] go) (E : List (Nat × Value))
  (h1 : σ a1 = some v1) (h2 : σ a2 = some v2) (h3 : σ a3 = some v3) (hE : SubL σ E) (ha : apart7 c d e0 e1 b v a1 a2 a3 E = true) (hm : MonoE K)
  (k : ∀ h' b6 pv lv rv, St T h0 h' (.b b6 (cellsT (go.getD zeroT) pv lv rv) :: M) → (∀ u ∈ cellsT (go.getD zeroT) pv lv rv, u.oneCell' = true) → (∀ h2, Chg [] hh h2 → TH h2 (cellsT (go.getD zeroT) pv lv rv) (go.getD zeroT)) → K (mk ((b, ptr b6) :: (v, .bool go.isSome) :: E)) h') :
  sops Tryz.prog Qp K [⟨some c, none, .callq f [.tmp a1, .tmp a2, .tmp a3]⟩, ⟨some d, none, .mv (.tmp c)⟩, ⟨some e0, none, .ext (.tmp d) 0⟩, ⟨some e1, none, .ext (.tmp d) 1⟩, ⟨some b, none, .new [(.int .i64 0), (.string ⟨#[]⟩), (.slice none 0 0), (.slice none 0 0), (.slice none 0 0), (.bool false), (.int .i64 0)]⟩,
   ⟨none, none, .st 7 (.tmp b) (.tmp e0)⟩, ⟨some v, none, .mv (.tmp e1)⟩] σ h ∧
  sops Tryz.prog Qp K [⟨some b, none, .new [(.int .i64 0), (.string ⟨#[]⟩), (.slice none 0 0), (.slice none 0 0), (.slice none 0 0), (.bool false), (.int .i64 0)]⟩, ⟨some c, none, .callq f [.tmp a1, .tmp a2, .tmp a3]⟩, ⟨some d, none, .mv (.tmp c)⟩, ⟨some e0, none, .ext (.tmp d) 0⟩, ⟨some e1, none, .ext (.tmp d) 1⟩,
   ⟨none, none, .st 7 (.tmp b) (.tmp e0)⟩, ⟨some v, none, .mv (.tmp e1)⟩] σ h := by
 simp only [apart7, Bool.and_eq_true, Bool.not_eq_true'] at ha
 obtain ⟨⟨⟨⟨⟨⟨⟨⟨⟨⟨⟨n1, n2⟩, n3⟩, n4⟩, n5⟩, n6⟩, n7⟩, n8⟩, n9⟩, n10⟩, n11⟩, ha⟩ := ha
 have n2' : Nat.beq b e0 = false := beqT (Ne.symm (beqF n2))
 have fin : ∀ {τ : Env} {h' : Heap} {b6 : Nat} {pv lv rv : Value}, (∀ u ∈ cellsT (go.getD zeroT) pv lv rv, u.oneCell' = true) → (∀ h2, Chg [] hh h2 → TH h2 (cellsT (go.getD zeroT) pv lv rv) (go.getD zeroT)) → τ b = some (ptr b6) → τ v = some (.bool go.isSome) → (∀ t, t ≠ c → t ≠ d → t ≠ e0 → t ≠ e1 → t ≠ b → t ≠ v → τ t = σ t) →
   St T h0 h' (.b b6 (cellsT (go.getD zeroT) pv lv rv) :: M) → K τ h' := fun h1 ht hb hv ho w => hm _ _ _ (sub_mk (l := (b, ptr _) :: (v, .bool go.isSome) :: E) ⟨hb, hv, sub7 hE ha ho⟩) (k _ _ _ _ _ w h1 ht)
 refine ⟨?_, ?_⟩
 ·simp only [sops, sopr, sop, evs, ev, h1, h2, h3]
  refine callq_ret (get (Chg.refl h)) ?_
  rintro _ h4 ⟨⟨pv, lv, rv, rfl, hone, hth⟩, c4⟩
  refine ⟨c4.ext, ?_⟩
  have w4 := w.ext c4
  simp only [upd, Nat.beq_refl, cond_true, cond_false, n1, n2, n2', n3, n4, n6, n7, n8]
  intro b6 h5 g5
  have w5 := w4.new g5
  refine w5.st3 0 rfl rfl rfl hone fun h6 w6 => ?_
  refine fin hone hth ?_ ?_ ?_ w6
  ·simp [n5]; rfl
  ·simp
  ·intro t t1 t2 t3 t4 t5 t6
   simp [beqT t1, beqT t2, beqT t3, beqT t4, beqT t5, beqT t6]
 ·simp only [sops, sopr, sop, evs, ev]
  intro b6 h4 g4
  have w4 := w.new g4
  simp only [upd, Nat.beq_refl, cond_true, cond_false, n9, n10, n11, h1, h2, h3]
  refine callq_ret (get g4.chg) ?_
  rintro _ h5 ⟨⟨pv, lv, rv, rfl, hone, hth⟩, c5⟩
  refine ⟨c5.ext, ?_⟩
  have w5 := w4.ext c5
  simp only [cond_false, n1, n2', n3, n6, n7, n8]
  refine w5.st3 0 rfl rfl rfl hone fun h6 w6 => ?_
  refine fin hone hth ?_ ?_ ?_ w6
  ·simp [n5, n6, n7, n8, n2']; rfl
  ·simp
  ·intro t t1 t2 t3 t4 t5 t6
   simp [beqT t1, beqT t2, beqT t3, beqT t4, beqT t5, beqT t6]
theorem rInt9_calls {h : Heap} {n : Int} : CallsH Tryz.prog 128 [.int .i64 n] h (Ret fun r h' => r = repV 3 n noText ∧ Chg [] h h') := by
 refine f128_calls (by simp) ?_
 intro b h1 g1
 refine Ei _ (Ai g1.blk (Ai (by decide) (Ai rfl (Ai (repV_ones 3 n noText) ?_))))
 intro h2 p2
 have g2 := g1.put p2
 exact ⟨_, rfl, cells_blk g2.blk, rfl, g2.chg⟩
theorem rText9_calls {h : Heap} {s : ByteArray} : CallsH Tryz.prog 130 [.string s] h (Ret fun r h' => r = repV 4 0 s ∧ Chg [] h h') := by
 refine f130_calls (by simp) ?_
 intro b h1 g1
 refine Ei _ (Ai g1.blk (Ai (by decide) (Ai rfl (Ai (repV_ones 4 0 s) ?_))))
 intro h2 p2
 have g2 := g1.put p2
 exact ⟨_, rfl, cells_blk g2.blk, rfl, g2.chg⟩
theorem rFail9_calls {h : Heap} {s : ByteArray} : CallsH Tryz.prog 49 [.string s] h (Ret fun r h' => r = repV 2 0 s ∧ Chg [] h h') := by
 refine f49_calls (by simp) ?_
 intro b h1 g1
 refine Ei _ (Ai g1.blk (Ai (by decide) (Ai rfl (Ai (repV_ones 2 0 s) ?_))))
 intro h2 p2
 have g2 := g1.put p2
 exact ⟨_, rfl, cells_blk g2.blk, rfl, g2.chg⟩
theorem rnum89_calls {h : Heap} {s : ByteArray} (hs : s.size < 4611686018427387904) : CallsH Tryz.prog 132 [.string s] h (Ret fun r h' => r = .tuple #[.int .i64 ((numOf s).getD 0), .bool (numOf s).isSome] ∧ h' = h) := by
 obtain ⟨⟨l⟩⟩ := s
 have e : numOf ⟨⟨l⟩⟩ = Num.refNum T63 l := Num.num_eq rfl l
 rw [e]
 exact r8num_calls rfl hs
theorem rmany9_calls {lo hi : Int} (c : RC9 h0 kv k av A) (x : As h0 h (rxE9 xb rest kv now av lv L why)) : CallsH Tryz.prog 56 [ptr xb, .int .i64 lo, .int .i64 hi] h
  (Ret fun r h' => (lo ≤ A.length ∧ A.length ≤ hi ∧ r = .bool true ∧ RxO9 h0 h (rxE9 xb rest kv now av lv L why) h' (rxE9 xb rest kv now av lv L why)) ∨ (¬ (lo ≤ A.length ∧ A.length ≤ hi) ∧ r = .bool false ∧ RxO9 h0 h (rxE9 xb rest kv now av lv L why) h' (rxE9 xb rest kv now av lv L wArgs))) := by
 obtain ⟨a, cc, rfl⟩ := c.argN
 refine f56_calls (by simp) ?_
 have w := x.st
 refine w.ldr9 0 rfl rfl ?_
 refine Ai rfl (Ai (fun h1 => ?_) (fun h1 => ?_))
 ·refine w.stw9 0 rfl fun h2 w => ?_
  exact .inr ⟨fun hh => by omega, rfl, x.out w 0 rfl⟩
 ·refine w.ldr9 0 rfl rfl ?_
  refine Ai rfl (Ai (fun h2 => ?_) (fun h2 => ?_))
  ·refine w.stw9 0 rfl fun h2 w => ?_
   exact .inr ⟨fun hh => by omega, rfl, x.out w 0 rfl⟩
  ·exact .inl ⟨by omega, by omega, rfl, x.out w 0 rfl⟩
theorem rnumA9_calls {j : Nat} {s : ByteArray} (c : RC9 h0 kv k av A) (x : As h0 h (rxE9 xb rest kv now av lv L why)) (hj : A[j]? = some s) (hs : s.size < 4611686018427387904) : CallsH Tryz.prog 121 [ptr xb, .int .i64 j] h
  (Ret fun r h' => r = .tuple #[.int .i64 ((numOf s).getD 0), .bool (numOf s).isSome] ∧ RxO9 h0 h (rxE9 xb rest kv now av lv L why) h' (rxE9 xb rest kv now av lv L (if (numOf s).isSome = true then why else wNum))) := by
 obtain ⟨b, o, cc, rfl⟩ := c.argF (by have := (List.getElem?_eq_some_iff.1 hj).1; omega)
 refine f121_calls (by simp) ?_
 have w := x.st
 refine w.ldr9 0 rfl rfl ?_
 refine c.ix (x.base w) j rfl hj ?_
 refine callp (rnum89_calls hs) ?_
 cases numOf s with
 |some m => exact ⟨rfl, x.out w 0 rfl⟩
 |none =>
  refine w.stw9 0 rfl fun h2 w => ?_
  exact ⟨rfl, x.out w 0 rfl⟩
end
end Go.Proofs.YtjnijlnmbjjgpaaGreatDoor
namespace Go.Proofs.YtjnijlnmbjjgpaaGreatDoor
open Go Go.Sx C
def addE (key n : ByteArray) : Eff := ⟨12, key, n, noText, 0⟩
def removeE (key n : ByteArray) : Eff := ⟨13, key, n, noText, 0⟩
def listR (l : List ByteArray) : Rep := ⟨5, 0, noText, l.map fun s => (4, 0, s)⟩
def small (s : ByteArray) : Bool := decide (s.size ≤ 1048576)
def okK (kd : Int) : Option Thing → Bool
 |none => true
 |some t => decide (t.kind = kd)
section
variable (S : Space) (now : Int)
def kindly (k : Int) (key : ByteArray) (f : Thing → Res) : Res := match getS S key now with
 |none => f zeroT
 |some t => if t.kind = k then f t else .error wType
def makes (key : ByteArray) (items : Int) (ok : Bool) (r : Rep) (E : List Eff) : Res :=
 if items ≤ 65536 ∧ key.size ≤ 1048576 ∧ ok = true then .ok (r, dropsS S key now ++ E) else .error wLong
def newL (there : ByteArray → Bool) : List ByteArray → List ByteArray → List ByteArray
 |_, [] => []
 |pre, n :: ns => (if there n = false ∧ n ∉ pre then [n] else []) ++ newL there (pre ++ [n]) ns
def hereL (there : ByteArray → Bool) (ns : List ByteArray) : List ByteArray := newL (fun n => !there n) [] ns
def cAway (k : Int) (there : Thing → ByteArray → Bool) (e : ByteArray → ByteArray → Eff) : List ByteArray → Res
 |key :: l => if 1 ≤ l.length ∧ l.length < 65536 then kindly S now k key fun t => .ok (numR (hereL (there t) l).length, (hereL (there t) l).map (e key)) else .error wArgs
 |[] => .error wArgs
def thereL (l : List ByteArray) (n : ByteArray) : Bool := decide (n ∈ l)
def cSadd : List ByteArray → Res
 |key :: l => if 1 ≤ l.length ∧ l.length < 65536 then kindly S now 4 key fun t =>
   let ns := newL (thereL t.list) [] l
   if ns = [] then .ok (numR 0, []) else makes S now key (t.list.length + ns.length) (ns.all small) (numR ns.length) (ns.map (addE key)) else .error wArgs
 |[] => .error wArgs
def cSrem : List ByteArray → Res := cAway S now 4 (fun t => thereL t.list) removeE
def cSis : List ByteArray → Res := arg2 fun key n => kindly S now 4 key fun t => .ok (numR (if thereL t.list n = true then 1 else 0), [])
def cScard : List ByteArray → Res := arg1 fun key => kindly S now 4 key fun t => .ok (numR t.list.length, [])
def cSmem : List ByteArray → Res := arg1 fun key => kindly S now 4 key fun t => .ok (listR t.list, [])
def interL : List ByteArray → List ByteArray → (List ByteArray → Res) → Res
 |acc, [], f => f acc
 |acc, key :: ks, f => kindly S now 4 key fun t => interL (acc.filter (thereL t.list)) ks f
def cSinter : List ByteArray → Res
 |key :: ks => if ks.length < 65536 then kindly S now 4 key fun t => interL S now t.list ks fun l => .ok (listR l, []) else .error wArgs
 |[] => .error wArgs
end
end Go.Proofs.YtjnijlnmbjjgpaaGreatDoor
namespace Go.Proofs.YtjnijlnmbjjgpaaGreatDoor
open Go Go.Sx C
theorem find_is9 {l : List RX} (hu : UpX l) (key : ByteArray) : (findX key l).2 = (findS (l.map RX.pr) key).isSome := by
 cases hb : (findX key l).2 with
 |true =>
  obtain ⟨hlt, hk⟩ := findX_hit key l hb
  rw [find_yes hu hlt hk]; rfl
 |false => rw [find_no hu hb]; rfl
section
variable {rest : List Value} {h0 h h1 h' : Heap} {xb i : Nat} {now n kd : Int} {kv av lv : Value} {k : List RX} {A : List ByteArray} {L : List Eff} {why key s : ByteArray} {M : List En} {T : List Nat} {e e' : En}
theorem rgone9_calls (c : RC9 h0 kv k av A) (x : As h0 h (rxE9 xb rest kv now av lv L why)) (hk : key.size < 4611686018427387904) (hL : L.length ≤ 1000000) : CallsH Tryz.prog 220 [ptr xb, .string key] h
  (Ret fun _ h' => ∃ lv', RxO9 h0 h (rxE9 xb rest kv now av lv L why) h' (rxE9 xb rest kv now av lv' (L ++ dropsS (k.map RX.pr) key now) why)) := by
 obtain ⟨a, cc, rfl⟩ := x.st.rform9 0 rfl
 refine f220_calls (by simp) ?_
 have w := x.st
 refine w.ldr9 0 rfl rfl ?_
 refine callp (Find_calls key (c.sl.ext (x.base w)) c.len hk c.fit) ?_
 rw [find_is9 c.up key]
 refine w.ldr9 0 rfl rfl ?_
 refine w.ldr9 0 rfl rfl ?_
 refine get_twoR9 w (c.getS (x.base w) key hk) [(0, ptr xb), (1, .string key), (5, .bool (findS (k.map RX.pr) key).isSome)] rfl rfl rfl ⟨rfl, rfl, rfl, trivial⟩ rfl (mono_at mono_retQ) fun h2 b6 pv lw rv w _ _ => ?_
 unfold dropsS
 generalize (findS (k.map RX.pr) key).isSome = fs
 generalize (getS (k.map RX.pr) key now).getD zeroT = t at w
 generalize (getS (k.map RX.pr) key now).isSome = gs
 cases fs with
 |false =>
  refine ⟨.slice a L.length cc, ?_⟩
  rw [if_neg (by simp), List.append_nil]
  exact x.out w 1 rfl
 |true =>
  cases gs with
  |true =>
   refine ⟨.slice a L.length cc, ?_⟩
   rw [if_neg (by simp), List.append_nil]
   exact x.out w 1 rfl
  |false =>
   refine w.ldr9 1 rfl rfl ?_
   intro b7 h3 g3
   have w := w.new g3
   refine w.rapp9 2 rfl rfl (one_sl (e := goneE key) (w.get 0 rfl)) (by simp only [List.length_singleton]; omega) fun a4 n4 h4 hst => ?_
   refine hst fun h5 w => ?_
   refine ⟨.slice a4 (L ++ [goneE key]).length n4, ?_⟩
   rw [if_pos ⟨rfl, rfl⟩]
   exact x.out w 2 rfl
theorem rthing9_calls (c : RC9 h0 kv k av A) (x : As h0 h (rxE9 xb rest kv now av lv L why)) (hk : key.size < 4611686018427387904) : CallsH Tryz.prog 124 [ptr xb, .string key, .int .i64 kd] h
  (Ret fun r h' => (∃ pv lw rv, r = .tuple #[.agg ⟨cellsT ((getS (k.map RX.pr) key now).getD zeroT) pv lw rv⟩, .bool (getS (k.map RX.pr) key now).isSome, .bool (okK kd (getS (k.map RX.pr) key now))] ∧ (∀ u ∈ cellsT ((getS (k.map RX.pr) key now).getD zeroT) pv lw rv, u.oneCell' = true) ∧
    ∀ h2, Chg [] h0 h2 → TH h2 (cellsT ((getS (k.map RX.pr) key now).getD zeroT) pv lw rv) ((getS (k.map RX.pr) key now).getD zeroT)) ∧
   RxO9 h0 h (rxE9 xb rest kv now av lv L why) h' (rxE9 xb rest kv now av lv L (if okK kd (getS (k.map RX.pr) key now) = true then why else wType))) := by
 refine f124_calls (by simp) ?_
 intro b6 h1 g1
 have w := x.st.new g1
 refine w.ldr9 1 rfl rfl ?_
 refine w.ldr9 1 rfl rfl ?_
 refine get_twoR9 w (c.getS (x.base w) key hk) [(0, ptr xb), (1, .string key), (2, .int .i64 kd), (6, ptr b6)] rfl rfl rfl ⟨rfl, rfl, rfl, rfl, trivial⟩ rfl (mono_at mono_retQ) fun h2 b9 pv lw rv w hone hth => ?_
 generalize getS (k.map RX.pr) key now = go at w hone hth ⊢
 cases go with
 |none =>
  refine w.ldw 0 rfl rfl ?_
  refine w.st3 1 rfl rfl rfl hone fun h3 w => ?_
  exact ⟨_, rfl, cells_blk (w.get 1 rfl), ⟨_, _, _, rfl, hone, hth⟩, x.out w 2 rfl⟩
 |some t =>
  refine w.ld1 0 rfl rfl ?_
  refine Ai rfl (Ai (fun h1 => ?_) (fun h1 => ?_))
  ·have hn : okK kd (some t) = false := decide_eq_false h1
   rw [hn]
   refine w.stw9 2 rfl fun h3 w => ?_
   refine w.ldw 0 rfl rfl ?_
   refine w.st3 1 rfl rfl rfl hone fun h4 w => ?_
   exact ⟨_, rfl, cells_blk (w.get 1 rfl), ⟨_, _, _, rfl, hone, hth⟩, x.out w 2 rfl⟩
  ·have hn : okK kd (some t) = true := decide_eq_true (Classical.not_not.1 h1)
   rw [hn]
   refine w.ldw 0 rfl rfl ?_
   refine w.st3 1 rfl rfl rfl hone fun h4 w => ?_
   exact ⟨_, rfl, cells_blk (w.get 1 rfl), ⟨_, _, _, rfl, hone, hth⟩, x.out w 2 rfl⟩
end
end Go.Proofs.YtjnijlnmbjjgpaaGreatDoor
set_option maxRecDepth 100000
namespace Go.Proofs.YtjnijlnmbjjgpaaGreatDoor.C
open Go Go.Sx Go.Sx.S
end Go.Proofs.YtjnijlnmbjjgpaaGreatDoor.C
set_option maxRecDepth 100000
namespace Go.Proofs.YtjnijlnmbjjgpaaGreatDoor.C
open Go Go.Sx Go.Sx.S
def f40r0 : LS := [o 7 (.eqn 4 false (t 5))]
def f40r1 : LS := [o 2 (.mv (t 5))]
def f40r2 : LS := [o 8 (.tas 92 (.agg #[(.string ⟨#[]⟩)]) true (t 5)),o 9 (.ext (t 8) 1),o 10 (.ext (t 8) 0)]
def f40r3 : LS := [o 3 (.new [(.string ⟨#[]⟩)]),
 q (.st 1 (t 3) (t 10))]
def f40r4 : LS := [o 11 (.fa 0 (t 3)),o 12 (.ld1 (t 11)),o 13 (.call 41 [(t 12)]),
 q (.st 4 (t 0) (t 13)),
 q (.st 1 (t 1) (.const (.slice none 0 0)))]
def f40r5 : LS := [o 4 (.mv (t 5))]
def f40r6 : LS := [o 6 (.mv (t 4)),
 q (.pan (t 6))]
def f40 : SCode := (.seq (.rcv (some 5)) (.block 0 (.seq (.ops f40r0) (.cond (t 7) (.ops f40r1) (.seq (.ops f40r2) (.cond (t 9) (.seq (.ops f40r3) (.ops f40r4)) (.seq (.ops f40r5) (.ops f40r6))))))))
def f95r0 : LS := [o 2 (.new [(.int .i64 0), (.int .i64 0), (.string ⟨#[]⟩), (.slice none 0 0)])]
def f95r1 : LS := [o 7 (.mv (t 0)),o 8 (.call 157 [(t 7), (i 4), (i 2), (i 65536)])]
def f95r2 : LS := [o 3 (.mv (i 0))]
def f95r3 : LS := [o 9 (.mv (t 0)),o 10 (.fn 172 [(t 9)] []),o 11 (.call 152 [(t 10)]),o 4 (.mv (t 11))]
def f95r4 : LS := [o 12 (.mv (t 0)),o 13 (.nilck (t 12)),o 14 (.fa 11 (t 13)),o 15 (.ld1 (t 14)),o 16 (.slc 1 (t 15) (some (i 1)) none),o 17 (.len (t 16)),o 18 (.mv (i 0))]
def f95r5 : LS := [o 19 (.cmp .lss (t 18) (t 17))]
def f95r6 : LS := [o 20 (.ixs 1 (t 16) (t 18)),o 21 (.ld1 (t 20)),o 6 (.mv (t 21))]
def f95r7 : LS := [o 22 (.mv (t 4)),o 23 (.mv (t 6)),o 24 (.callv (t 22) [(t 23)])]
def f95r8 : LS := [o 25 (.mv (t 3)),o 26 (.ar .add (t 25) (i 1)),o 3 (.mv (t 26))]
def f95r9 : LS := [o 27 (.mv (t 0)),o 28 (.mv (t 6)),o 29 (.build [(.int .i64 0), (.string ⟨#[]⟩), (.string ⟨#[]⟩), (.string ⟨#[]⟩), (.int .i64 0)] [(0, 1), (2, 1)] [(i 12), (t 28)]),o 30 (.mv (t 0)),o 31 (.nilck (t 30)),o 32 (.fa 0 (t 31)),o 33 (.fa 3 (t 32)),o 34 (.ld1 (t 33)),o 35 (.len (t 34)),o 36 (.mv (t 3)),o 37 (.ar .add (t 35) (t 36)),o 38 (.call 155 [(t 27), (t 29), (t 37)])]
def f95r10 : LS := [o 39 (.ar .add (t 18) (i 1)),o 18 (.mv (t 39))]
def f95l11 : SCode := (.seq (.ops f95r5) (.seq (.cond (t 19) .skip (.exit 0)) (.seq (.block 1 (.seq (.ops f95r6) (.seq (.ops f95r7) (.cond (t 24) (.seq (.ops f95r8) (.ops f95r9)) .skip)))) (.ops f95r10))))
def f95r12 : LS := [o 40 (.mv (t 3)),o 41 (.call 156 [(t 40)]),
 q (.st 4 (t 2) (t 41))]
def f95 : SCode := (.seq (.ops f95r0) (.seq (.ops f95r1) (.seq (.ops f95r2) (.seq (.ops f95r3) (.seq (.seq (.ops f95r4) (.block 0 (.loop f95l11))) (.seq (.ops f95r12) .ret))))))
theorem f95_calls : Sound Tryz.prog 95 42 f95 [.cn 2 4] := sound_of mixed Tryz.func95 rfl (by kernel_rfl) (by kernel_rfl) (by kernel_rfl)
def f96r0 : LS := [o 2 (.new [(.int .i64 0), (.int .i64 0), (.string ⟨#[]⟩), (.slice none 0 0)])]
def f96r1 : LS := [o 3 (.mv (t 0)),o 4 (.call 157 [(t 3), (i 4), (i 2), (i 65536)])]
def f96r2 : LS := [o 5 (.mv (t 0)),o 6 (.mv (t 0)),o 7 (.fn 172 [(t 6)] []),o 8 (.call 159 [(t 5), (i 13), (t 7)]),
 q (.st 4 (t 2) (t 8))]
def f96 : SCode := (.seq (.ops f96r0) (.seq (.ops f96r1) (.seq (.ops f96r2) .ret)))
theorem f96_calls : Sound Tryz.prog 96 9 f96 [.cn 2 4] := sound_of mixed Tryz.func96 rfl (by kernel_rfl) (by kernel_rfl) (by kernel_rfl)
def f97r0 : LS := [o 2 (.new [(.int .i64 0), (.int .i64 0), (.string ⟨#[]⟩), (.slice none 0 0)])]
def f97r1 : LS := [o 3 (.mv (t 0)),o 4 (.call 157 [(t 3), (i 4), (i 2), (i 2)])]
def f97r2 : LS := [o 5 (.mv (t 0)),o 6 (.mv (t 0)),o 7 (.nilck (t 6)),o 8 (.fa 11 (t 7)),o 9 (.ld1 (t 8)),o 10 (.ixs 1 (t 9) (i 1)),o 11 (.ld1 (t 10)),o 12 (.call 172 [(t 5), (t 11)]),o 13 (.call 173 [(t 12)]),
 q (.st 4 (t 2) (t 13))]
def f97 : SCode := (.seq (.ops f97r0) (.seq (.ops f97r1) (.seq (.ops f97r2) .ret)))
theorem f97_calls : Sound Tryz.prog 97 14 f97 [.cn 2 4] := sound_of mixed Tryz.func97 rfl (by kernel_rfl) (by kernel_rfl) (by kernel_rfl)
def f98r0 : LS := [o 2 (.new [(.int .i64 0), (.int .i64 0), (.string ⟨#[]⟩), (.slice none 0 0)])]
def f98r1 : LS := [o 3 (.mv (t 0)),o 4 (.call 157 [(t 3), (i 4), (i 1), (i 1)])]
def f98r2 : LS := [o 5 (.mv (t 0)),o 6 (.nilck (t 5)),o 7 (.fa 0 (t 6)),o 8 (.fa 3 (t 7)),o 9 (.ld1 (t 8)),o 10 (.len (t 9)),o 11 (.call 156 [(t 10)]),
 q (.st 4 (t 2) (t 11))]
def f98 : SCode := (.seq (.ops f98r0) (.seq (.ops f98r1) (.seq (.ops f98r2) .ret)))
theorem f98_calls : Sound Tryz.prog 98 12 f98 [.cn 2 4] := sound_of mixed Tryz.func98 rfl (by kernel_rfl) (by kernel_rfl) (by kernel_rfl)
def f99r0 : LS := [o 2 (.new [(.int .i64 0), (.int .i64 0), (.string ⟨#[]⟩), (.slice none 0 0)])]
def f99r1 : LS := [o 3 (.mv (t 0)),o 4 (.call 157 [(t 3), (i 4), (i 1), (i 1)])]
def f99r2 : LS := [o 5 (.mv (t 0)),o 6 (.nilck (t 5)),o 7 (.fa 0 (t 6)),o 8 (.fa 3 (t 7)),o 9 (.ld1 (t 8)),o 10 (.call 170 [(t 9), (u 171)]),
 q (.st 4 (t 2) (t 10))]
def f99 : SCode := (.seq (.ops f99r0) (.seq (.ops f99r1) (.seq (.ops f99r2) .ret)))
theorem f99_calls : Sound Tryz.prog 99 11 f99 [.cn 2 4] := sound_of mixed Tryz.func99 rfl (by kernel_rfl) (by kernel_rfl) (by kernel_rfl)
def f100r0 : LS := [o 2 (.new [(.int .i64 0), (.int .i64 0), (.string ⟨#[]⟩), (.slice none 0 0)])]
def f100r1 : LS := [o 11 (.mv (t 0)),o 12 (.call 149 [(t 11), (i 1), (i 65536)])]
def f100r2 : LS := [o 13 (.mkm),o 3 (.mv (t 13))]
def f100r3 : LS := [o 14 (.mv (t 0)),o 15 (.nilck (t 14)),o 16 (.fa 11 (t 15)),o 17 (.ld1 (t 16)),o 18 (.len (t 17)),o 19 (.mv (i 0))]
def f100r4 : LS := [o 20 (.cmp .lss (t 19) (t 18))]
def f100r5 : LS := [o 21 (.mv (t 19)),o 22 (.ixs 1 (t 17) (t 19)),o 23 (.ld1 (t 22)),o 4 (.mv (t 21)),o 5 (.mv (t 23))]
def f100r6 : LS := [o 24 (.mv (t 0)),o 25 (.mv (t 5)),o 26 (.nilck (t 24)),o 27 (.fa 10 (t 26)),
 q (.st 1 (t 27) (t 25))]
def f100r7 : LS := [o 28 (.mv (t 0)),o 29 (.call 151 [(t 28), (i 4)])]
def f100r8 : LS := [o 30 (.mv (t 0)),o 31 (.nilck (t 30)),o 32 (.fa 0 (t 31)),o 33 (.fa 3 (t 32)),o 34 (.ld1 (t 33)),o 35 (.len (t 34)),o 36 (.mv (i 0))]
def f100r9 : LS := [o 37 (.cmp .lss (t 36) (t 35))]
def f100r10 : LS := [o 38 (.ixs 1 (t 34) (t 36)),o 39 (.ld1 (t 38)),o 7 (.mv (t 39))]
def f100r11 : LS := [o 40 (.mv (t 3)),o 41 (.mv (t 7)),o 42 (.look .str (.int .i64 0) false (t 40) (t 41)),o 43 (.mv (t 4)),o 44 (.cmp .eql (t 42) (t 43))]
def f100r12 : LS := [o 45 (.mv (t 3)),o 46 (.mv (t 7)),o 47 (.look .str (.int .i64 0) false (t 45) (t 46)),o 48 (.ar .add (t 47) (i 1)),
 q (.mup .str (t 45) (t 46) (t 48))]
def f100r13 : LS := [o 49 (.ar .add (t 36) (i 1)),o 36 (.mv (t 49))]
def f100l14 : SCode := (.seq (.ops f100r9) (.seq (.cond (t 37) .skip (.exit 2)) (.seq (.block 3 (.seq (.ops f100r10) (.seq (.ops f100r11) (.cond (t 44) (.ops f100r12) .skip)))) (.ops f100r13))))
def f100r15 : LS := [o 50 (.ar .add (t 19) (i 1)),o 19 (.mv (t 50))]
def f100l16 : SCode := (.seq (.ops f100r4) (.seq (.cond (t 20) .skip (.exit 0)) (.seq (.block 1 (.seq (.ops f100r5) (.seq (.ops f100r6) (.seq (.ops f100r7) (.seq (.ops f100r8) (.block 2 (.loop f100l14))))))) (.ops f100r15))))
def f100r17 : LS := [o 8 (.mv (.const (.slice none 0 0)))]
def f100r18 : LS := [o 51 (.mv (t 3)),o 52 (.call 174 [(t 51)]),o 53 (.call 119 [(t 52)]),o 54 (.len (t 53)),o 55 (.mv (i 0))]
def f100r19 : LS := [o 56 (.cmp .lss (t 55) (t 54))]
def f100r20 : LS := [o 57 (.ixs 1 (t 53) (t 55)),o 58 (.ld1 (t 57)),o 10 (.mv (t 58))]
def f100r21 : LS := [o 59 (.mv (t 3)),o 60 (.mv (t 10)),o 61 (.look .str (.int .i64 0) false (t 59) (t 60)),o 62 (.mv (t 0)),o 63 (.nilck (t 62)),o 64 (.fa 11 (t 63)),o 65 (.ld1 (t 64)),o 66 (.len (t 65)),o 67 (.cmp .eql (t 61) (t 66))]
def f100r22 : LS := [o 68 (.mv (t 8)),o 69 (.mv (t 10)),o 70 (.bslice [(.string ⟨#[]⟩)] 1 [(0, 1)] [(t 69)]),o 71 (.app 1 16 [(.string ⟨#[]⟩)] (t 68) (t 70)),o 8 (.mv (t 71))]
def f100r23 : LS := [o 72 (.ar .add (t 55) (i 1)),o 55 (.mv (t 72))]
def f100l24 : SCode := (.seq (.ops f100r19) (.seq (.cond (t 56) .skip (.exit 4)) (.seq (.block 5 (.seq (.ops f100r20) (.seq (.ops f100r21) (.cond (t 67) (.ops f100r22) .skip)))) (.ops f100r23))))
def f100r25 : LS := [o 73 (.mv (t 8)),o 74 (.call 170 [(t 73), (u 171)]),
 q (.st 4 (t 2) (t 74))]
def f100 : SCode := (.seq (.ops f100r0) (.seq (.ops f100r1) (.seq (.ops f100r2) (.seq (.seq (.ops f100r3) (.block 0 (.loop f100l16))) (.seq (.ops f100r17) (.seq (.seq (.ops f100r18) (.block 4 (.loop f100l24))) (.seq (.ops f100r25) .ret)))))))
theorem f100_calls : Sound Tryz.prog 100 75 f100 [.cn 2 4] := sound_of mixed Tryz.func100 rfl (by kernel_rfl) (by kernel_rfl) (by kernel_rfl)
def f149r0 : LS := [o 6 (.mv (t 0)),o 7 (.nilck (t 6)),o 8 (.fa 11 (t 7)),o 9 (.ld1 (t 8)),o 10 (.len (t 9)),o 11 (.mv (t 1)),o 12 (.cmp .geq (t 10) (t 11)),o 13 (.mv (t 12)),
 g 14 13 (.mv (t 0)),
 g 15 13 (.nilck (t 14)),
 g 16 13 (.fa 11 (t 15)),
 g 17 13 (.ld1 (t 16)),
 g 18 13 (.len (t 17)),
 g 19 13 (.mv (t 2)),
 g 20 13 (.cmp .leq (t 18) (t 19)),o 21 (.pick (t 13) (t 20) (b false)),o 22 (.call 150 [(t 21), (.const (.string ⟨#[69, 82, 82, 32, 97, 114, 103, 115]⟩))])]
def f149r1 : LS := [o 23 (.mv (t 0)),o 24 (.mv (t 0)),o 25 (.nilck (t 24)),o 26 (.fa 11 (t 25)),o 27 (.ld1 (t 26)),o 28 (.ixs 1 (t 27) (i 0)),o 29 (.ld1 (t 28)),o 30 (.nilck (t 23)),o 31 (.fa 10 (t 30)),
 q (.st 1 (t 31) (t 29))]
def f149 : SCode := (.seq (.ops f149r0) (.ops f149r1))
theorem f149_calls : Sound Tryz.prog 149 32 f149 [] := sound_of mixed Tryz.func149 rfl (by kernel_rfl) (by kernel_rfl) (by kernel_rfl)
def f150r0 : LS := [o 4 (.mv (t 0)),o 5 (.un .not (t 4))]
def f150r1 : LS := [o 6 (.mv (t 1)),o 7 (.build [(.string ⟨#[]⟩)] [(0, 1)] [(t 6)]),o 8 (.mki 92 (t 7)),
 q (.pan (t 8))]
def f150 : SCode := (.seq (.ops f150r0) (.cond (t 5) (.ops f150r1) .skip))
theorem f150_calls : Sound Tryz.prog 150 9 f150 [] := sound_of mixed Tryz.func150 rfl (by kernel_rfl) (by kernel_rfl) (by kernel_rfl)
def f151r0 : LS := [o 5 (.mv (t 0)),o 6 (.mv (t 0)),o 7 (.mv (t 0)),o 8 (.nilck (t 7)),o 9 (.fa 8 (t 8)),o 10 (.ld1 (t 9)),o 11 (.mv (t 0)),o 12 (.nilck (t 11)),o 13 (.fa 10 (t 12)),o 14 (.ld1 (t 13)),o 15 (.mv (t 0)),o 16 (.nilck (t 15)),o 17 (.fa 9 (t 16)),o 18 (.ld1 (t 17)),o 19 (.call 45 [(t 10), (t 14), (t 18)]),o 4 (.mv (t 19)),o 20 (.ext (t 4) 0),o 21 (.ext (t 4) 1),o 22 (.nilck (t 5)),o 23 (.fa 0 (t 22)),
 q (.st 7 (t 23) (t 20)),o 24 (.nilck (t 6)),o 25 (.fa 7 (t 24)),
 q (.st 1 (t 25) (t 21))]
def f151r1 : LS := [o 26 (.mv (t 0)),o 27 (.nilck (t 26)),o 28 (.fa 7 (t 27)),o 29 (.ld1 (t 28)),o 30 (.un .not (t 29)),o 31 (.mv (t 30)),
 n 32 31 (.mv (t 0)),
 n 33 31 (.nilck (t 32)),
 n 34 31 (.fa 0 (t 33)),
 n 35 31 (.fa 0 (t 34)),
 n 36 31 (.ld1 (t 35)),
 n 37 31 (.mv (t 1)),
 n 38 31 (.cmp .eql (t 36) (t 37)),o 39 (.pick (t 31) (b true) (t 38)),o 40 (.call 150 [(t 39), (.const (.string ⟨#[87, 82, 79, 78, 71, 84, 89, 80, 69]⟩))])]
def f151 : SCode := (.seq (.ops f151r0) (.ops f151r1))
theorem f151_calls : Sound Tryz.prog 151 41 f151 [] := sound_of mixed Tryz.func151 rfl (by kernel_rfl) (by kernel_rfl) (by kernel_rfl)
def f152r0 : LS := [o 1 (.box (t 0)),o 2 (.mv (.const .nilFunc))]
def f152r1 : LS := [o 4 (.mkm),o 3 (.new [(.map none)]),
 q (.st 1 (t 3) (t 4))]
def f152r2 : LS := [o 5 (.fn 228 [] [(t 3), (t 1)]),o 2 (.mv (t 5))]
def f152 : SCode := (.seq (.ops f152r0) (.seq (.ops f152r1) (.seq (.ops f152r2) .ret)))
theorem f152_calls : Sound Tryz.prog 152 6 f152 [.t 2] := sound_of mixed Tryz.func152 rfl (by kernel_rfl) (by kernel_rfl) (by kernel_rfl)
def f155r0 : LS := [o 4 (.box (t 1))]
def f155r1 : LS := [o 6 (.mv (t 2)),o 7 (.cmp .leq (t 6) (i 65536)),o 8 (.mv (t 7)),
 g 9 8 (.mv (t 0)),
 g 10 8 (.nilck (t 9)),
 g 11 8 (.fa 10 (t 10)),
 g 12 8 (.ld1 (t 11)),
 g 13 8 (.lens (t 12)),
 g 14 8 (.cmp .leq (t 13) (i 1048576)),o 15 (.pick (t 8) (t 14) (b false)),o 16 (.mv (t 15)),
 g 17 16 (.fa 2 (t 4)),
 g 18 16 (.ld1 (t 17)),
 g 19 16 (.lens (t 18)),
 g 20 16 (.cmp .leq (t 19) (i 1048576)),o 21 (.pick (t 16) (t 20) (b false)),o 22 (.mv (t 21)),
 g 23 22 (.fa 3 (t 4)),
 g 24 22 (.ld1 (t 23)),
 g 25 22 (.lens (t 24)),
 g 26 22 (.cmp .leq (t 25) (i 1048576)),o 27 (.pick (t 22) (t 26) (b false)),o 28 (.call 150 [(t 27), (.const (.string ⟨#[69, 82, 82, 32, 108, 111, 110, 103]⟩))])]
def f155r2 : LS := [o 29 (.mv (t 0)),o 30 (.nilck (t 29)),o 31 (.fa 12 (t 30)),o 32 (.ld1 (t 31)),o 33 (.len (t 32)),o 34 (.cmp .eql (t 33) (i 0))]
def f155r3 : LS := [o 35 (.mv (t 0)),o 36 (.mv (t 0)),o 37 (.nilck (t 36)),o 38 (.fa 8 (t 37)),o 39 (.ld1 (t 38)),o 40 (.mv (t 0)),o 41 (.nilck (t 40)),o 42 (.fa 9 (t 41)),o 43 (.ld1 (t 42)),o 44 (.mv (t 0)),o 45 (.nilck (t 44)),o 46 (.fa 10 (t 45)),o 47 (.ld1 (t 46)),o 48 (.call 231 [(t 39), (t 43), (t 47)]),o 49 (.nilck (t 35)),o 50 (.fa 12 (t 49)),
 q (.st 1 (t 50) (t 48))]
def f155r4 : LS := [o 51 (.mv (t 0)),o 52 (.nilck (t 51)),o 53 (.fa 10 (t 52)),o 54 (.ld1 (t 53)),o 55 (.fa 1 (t 4)),
 q (.st 1 (t 55) (t 54))]
def f155r5 : LS := [o 56 (.mv (t 0)),o 57 (.mv (t 0)),o 58 (.nilck (t 57)),o 59 (.fa 12 (t 58)),o 60 (.ld1 (t 59)),o 61 (.ldn 5 (t 4)),o 62 (.bslice [(.int .i64 0), (.string ⟨#[]⟩), (.string ⟨#[]⟩), (.string ⟨#[]⟩), (.int .i64 0)] 1 [(0, 5)] [(t 61)]),o 63 (.app 5 64 [(.int .i64 0), (.string ⟨#[]⟩), (.string ⟨#[]⟩), (.string ⟨#[]⟩), (.int .i64 0)] (t 60) (t 62)),o 64 (.nilck (t 56)),o 65 (.fa 12 (t 64)),
 q (.st 1 (t 65) (t 63))]
def f155 : SCode := (.seq (.ops f155r0) (.seq (.ops f155r1) (.seq (.seq (.ops f155r2) (.cond (t 34) (.ops f155r3) .skip)) (.seq (.ops f155r4) (.ops f155r5)))))
theorem f155_calls : Sound Tryz.prog 155 66 f155 [] := sound_of mixed Tryz.func155 rfl (by kernel_rfl) (by kernel_rfl) (by kernel_rfl)
def f156r0 : LS := [o 2 (.new [(.int .i64 0), (.int .i64 0), (.string ⟨#[]⟩), (.slice none 0 0)])]
def f156r1 : LS := [o 3 (.mv (t 0)),o 4 (.build [(.int .i64 0), (.int .i64 0), (.string ⟨#[]⟩), (.slice none 0 0)] [(0, 1), (1, 1)] [(i 3), (t 3)]),
 q (.st 4 (t 2) (t 4))]
def f156 : SCode := (.seq (.ops f156r0) (.seq (.ops f156r1) .ret))
theorem f156_calls : Sound Tryz.prog 156 5 f156 [.cn 2 4] := sound_of mixed Tryz.func156 rfl (by kernel_rfl) (by kernel_rfl) (by kernel_rfl)
def f157r0 : LS := [o 8 (.mv (t 0)),o 9 (.mv (t 2)),o 10 (.mv (t 3)),o 11 (.call 149 [(t 8), (t 9), (t 10)])]
def f157r1 : LS := [o 12 (.mv (t 0)),o 13 (.mv (t 1)),o 14 (.call 151 [(t 12), (t 13)])]
def f157 : SCode := (.seq (.ops f157r0) (.ops f157r1))
theorem f157_calls : Sound Tryz.prog 157 15 f157 [] := sound_of mixed Tryz.func157 rfl (by kernel_rfl) (by kernel_rfl) (by kernel_rfl)
def f158r0 : LS := [o 2 (.new [(.int .i64 0), (.int .i64 0), (.string ⟨#[]⟩), (.slice none 0 0)])]
def f158r1 : LS := [o 3 (.mv (t 0)),o 4 (.build [(.int .i64 0), (.int .i64 0), (.string ⟨#[]⟩), (.slice none 0 0)] [(0, 1), (2, 1)] [(i 4), (t 3)]),
 q (.st 4 (t 2) (t 4))]
def f158 : SCode := (.seq (.ops f158r0) (.seq (.ops f158r1) .ret))
theorem f158_calls : Sound Tryz.prog 158 5 f158 [.cn 2 4] := sound_of mixed Tryz.func158 rfl (by kernel_rfl) (by kernel_rfl) (by kernel_rfl)
def f159r0 : LS := [o 5 (.box (t 2)),o 6 (.new [(.int .i64 0), (.int .i64 0), (.string ⟨#[]⟩), (.slice none 0 0)])]
def f159r1 : LS := [o 7 (.mv (i 0))]
def f159r2 : LS := [o 11 (.fn 232 [] [(t 5)]),o 12 (.call 152 [(t 11)]),o 8 (.mv (t 12))]
def f159r3 : LS := [o 13 (.mv (t 0)),o 14 (.nilck (t 13)),o 15 (.fa 11 (t 14)),o 16 (.ld1 (t 15)),o 17 (.slc 1 (t 16) (some (i 1)) none),o 18 (.len (t 17)),o 19 (.mv (i 0))]
def f159r4 : LS := [o 20 (.cmp .lss (t 19) (t 18))]
def f159r5 : LS := [o 21 (.ixs 1 (t 17) (t 19)),o 22 (.ld1 (t 21)),o 10 (.mv (t 22))]
def f159r6 : LS := [o 23 (.mv (t 8)),o 24 (.mv (t 10)),o 25 (.callv (t 23) [(t 24)])]
def f159r7 : LS := [o 26 (.mv (t 7)),o 27 (.ar .add (t 26) (i 1)),o 7 (.mv (t 27))]
def f159r8 : LS := [o 28 (.mv (t 0)),o 29 (.mv (t 1)),o 30 (.mv (t 10)),o 31 (.build [(.int .i64 0), (.string ⟨#[]⟩), (.string ⟨#[]⟩), (.string ⟨#[]⟩), (.int .i64 0)] [(0, 1), (2, 1)] [(t 29), (t 30)]),o 32 (.call 233 [(t 28), (t 31)])]
def f159r9 : LS := [o 33 (.ar .add (t 19) (i 1)),o 19 (.mv (t 33))]
def f159l10 : SCode := (.seq (.ops f159r4) (.seq (.cond (t 20) .skip (.exit 0)) (.seq (.block 1 (.seq (.ops f159r5) (.seq (.ops f159r6) (.cond (t 25) (.seq (.ops f159r7) (.ops f159r8)) .skip)))) (.ops f159r9))))
def f159r11 : LS := [o 34 (.mv (t 7)),o 35 (.call 156 [(t 34)]),
 q (.st 4 (t 6) (t 35))]
def f159 : SCode := (.seq (.ops f159r0) (.seq (.ops f159r1) (.seq (.ops f159r2) (.seq (.seq (.ops f159r3) (.block 0 (.loop f159l10))) (.seq (.ops f159r11) .ret)))))
theorem f159_calls : Sound Tryz.prog 159 36 f159 [.cn 6 4] := sound_of mixed Tryz.func159 rfl (by kernel_rfl) (by kernel_rfl) (by kernel_rfl)
def f170r0 : LS := [o 4 (.new [(.int .i64 0), (.int .i64 0), (.string ⟨#[]⟩), (.slice none 0 0)])]
def f170r1 : LS := [o 10 (.build [(.int .i64 0), (.int .i64 0), (.string ⟨#[]⟩), (.slice none 0 0)] [(0, 1)] [(i 5)]),o 5 (.new [(.int .i64 0), (.int .i64 0), (.string ⟨#[]⟩), (.slice none 0 0)]),
 q (.st 4 (t 5) (t 10))]
def f170r2 : LS := [o 11 (.mv (t 0)),o 12 (.len (t 11)),o 13 (.mv (i 0))]
def f170r3 : LS := [o 14 (.cmp .lss (t 13) (t 12))]
def f170r4 : LS := [o 15 (.ixs 1 (t 11) (t 13)),o 16 (.ld1 (t 15)),o 7 (.mv (t 16))]
def f170r5 : LS := [o 17 (.mv (t 1)),o 18 (.mv (t 7)),o 19 (.callv (t 17) [(t 18)]),o 20 (.len (t 19)),o 21 (.mv (i 0))]
def f170r6 : LS := [o 22 (.cmp .lss (t 21) (t 20))]
def f170r7 : LS := [o 23 (.ixs 1 (t 19) (t 21)),o 24 (.ld1 (t 23)),o 9 (.mv (t 24))]
def f170r8 : LS := [o 25 (.fa 3 (t 5)),o 26 (.ld1 (t 25)),o 27 (.mv (t 9)),o 28 (.callq 158 [(t 27)]),o 29 (.bslice [(.int .i64 0), (.int .i64 0), (.string ⟨#[]⟩), (.slice none 0 0)] 1 [(0, 4)] [(t 28)]),o 30 (.app 4 56 [(.int .i64 0), (.int .i64 0), (.string ⟨#[]⟩), (.slice none 0 0)] (t 26) (t 29)),o 31 (.fa 3 (t 5)),
 q (.st 1 (t 31) (t 30))]
def f170r9 : LS := [o 32 (.ar .add (t 21) (i 1)),o 21 (.mv (t 32))]
def f170l10 : SCode := (.seq (.ops f170r6) (.seq (.cond (t 22) .skip (.exit 2)) (.seq (.block 3 (.seq (.ops f170r7) (.ops f170r8))) (.ops f170r9))))
def f170r11 : LS := [o 33 (.ar .add (t 13) (i 1)),o 13 (.mv (t 33))]
def f170l12 : SCode := (.seq (.ops f170r3) (.seq (.cond (t 14) .skip (.exit 0)) (.seq (.block 1 (.seq (.ops f170r4) (.seq (.ops f170r5) (.block 2 (.loop f170l10))))) (.ops f170r11))))
def f170r13 : LS := [o 34 (.ldn 4 (t 5)),
 q (.st 4 (t 4) (t 34))]
def f170 : SCode := (.seq (.ops f170r0) (.seq (.ops f170r1) (.seq (.seq (.ops f170r2) (.block 0 (.loop f170l12))) (.seq (.ops f170r13) .ret))))
theorem f170_calls : Sound Tryz.prog 170 35 f170 [.cn 4 4] := sound_of mixed Tryz.func170 rfl (by kernel_rfl) (by kernel_rfl) (by kernel_rfl)
def f171r0 : LS := [o 2 (.mv (.const (.slice none 0 0)))]
def f171r1 : LS := [o 3 (.mv (t 0)),o 4 (.bslice [(.string ⟨#[]⟩)] 1 [(0, 1)] [(t 3)]),o 2 (.mv (t 4))]
def f171 : SCode := (.seq (.ops f171r0) (.seq (.ops f171r1) .ret))
theorem f171_calls : Sound Tryz.prog 171 5 f171 [.t 2] := sound_of mixed Tryz.func171 rfl (by kernel_rfl) (by kernel_rfl) (by kernel_rfl)
def f172r0 : LS := [o 4 (.mv (b false))]
def f172r1 : LS := [o 8 (.mv (t 0)),o 9 (.nilck (t 8)),o 10 (.fa 0 (t 9)),o 11 (.fa 3 (t 10)),o 12 (.ld1 (t 11)),o 13 (.mv (t 1)),o 14 (.call 235 [(t 12), (t 13)]),o 7 (.mv (t 14)),o 15 (.ext (t 7) 0),o 16 (.ext (t 7) 1),o 5 (.mv (t 15)),o 6 (.mv (t 16))]
def f172r2 : LS := [o 17 (.mv (t 6)),o 4 (.mv (t 17))]
def f172 : SCode := (.seq (.ops f172r0) (.seq (.ops f172r1) (.seq (.ops f172r2) .ret)))
theorem f172_calls : Sound Tryz.prog 172 18 f172 [.t 4] := sound_of mixed Tryz.func172 rfl (by kernel_rfl) (by kernel_rfl) (by kernel_rfl)
def f173r0 : LS := [o 2 (.new [(.int .i64 0), (.int .i64 0), (.string ⟨#[]⟩), (.slice none 0 0)])]
def f173r1 : LS := [o 3 (.mv (t 0))]
def f173r2 : LS := [o 4 (.call 156 [(i 1)]),
 q (.st 4 (t 2) (t 4))]
def f173r3 : LS := [o 5 (.call 156 [(i 0)]),
 q (.st 4 (t 2) (t 5))]
def f173 : SCode := (.seq (.ops f173r0) (.seq (.seq (.ops f173r1) (.cond (t 3) (.seq (.ops f173r2) .ret) .skip)) (.seq (.ops f173r3) .ret)))
theorem f173_calls : Sound Tryz.prog 173 6 f173 [.cn 2 4] := sound_of mixed Tryz.func173 rfl (by kernel_rfl) (by kernel_rfl) (by kernel_rfl)
def f228r0 : LS := [o 4 (.mv (b false))]
def f228r1 : LS := [o 5 (.ld1 (t 1)),o 6 (.mv (t 0)),o 7 (.look .str (.int .i64 0) false (t 5) (t 6)),o 8 (.ar .add (t 7) (i 1)),
 q (.mup .str (t 5) (t 6) (t 8))]
def f228r2 : LS := [o 9 (.ld1 (t 1)),o 10 (.mv (t 0)),o 11 (.look .str (.int .i64 0) false (t 9) (t 10)),o 12 (.cmp .eql (t 11) (i 1)),o 13 (.mv (t 12)),
 g 14 13 (.ld1 (t 2)),
 g 15 13 (.mv (t 0)),
 g 16 13 (.callv (t 14) [(t 15)]),
 g 17 13 (.un .not (t 16)),o 18 (.pick (t 13) (t 17) (b false)),o 4 (.mv (t 18))]
def f228 : SCode := (.seq (.ops f228r0) (.seq (.ops f228r1) (.seq (.ops f228r2) .ret)))
theorem f228_calls : Sound Tryz.prog 228 19 f228 [.t 4] := sound_of mixed Tryz.func228 rfl (by kernel_rfl) (by kernel_rfl) (by kernel_rfl)
def f232r0 : LS := [o 3 (.mv (b false))]
def f232r1 : LS := [o 4 (.ld1 (t 1)),o 5 (.mv (t 0)),o 6 (.callv (t 4) [(t 5)]),o 7 (.un .not (t 6)),o 3 (.mv (t 7))]
def f232 : SCode := (.seq (.ops f232r0) (.seq (.ops f232r1) .ret))
theorem f232_calls : Sound Tryz.prog 232 8 f232 [.t 3] := sound_of mixed Tryz.func232 rfl (by kernel_rfl) (by kernel_rfl) (by kernel_rfl)
def f233r0 : LS := [o 3 (.box (t 1))]
def f233r1 : LS := [o 4 (.mv (t 0)),o 5 (.nilck (t 4)),o 6 (.fa 10 (t 5)),o 7 (.ld1 (t 6)),o 8 (.fa 1 (t 3)),
 q (.st 1 (t 8) (t 7))]
def f233r2 : LS := [o 9 (.mv (t 0)),o 10 (.mv (t 0)),o 11 (.nilck (t 10)),o 12 (.fa 12 (t 11)),o 13 (.ld1 (t 12)),o 14 (.ldn 5 (t 3)),o 15 (.bslice [(.int .i64 0), (.string ⟨#[]⟩), (.string ⟨#[]⟩), (.string ⟨#[]⟩), (.int .i64 0)] 1 [(0, 5)] [(t 14)]),o 16 (.app 5 64 [(.int .i64 0), (.string ⟨#[]⟩), (.string ⟨#[]⟩), (.string ⟨#[]⟩), (.int .i64 0)] (t 13) (t 15)),o 17 (.nilck (t 9)),o 18 (.fa 12 (t 17)),
 q (.st 1 (t 18) (t 16))]
def f233 : SCode := (.seq (.ops f233r0) (.seq (.ops f233r1) (.ops f233r2)))
theorem f233_calls : Sound Tryz.prog 233 19 f233 [] := sound_of mixed Tryz.func233 rfl (by kernel_rfl) (by kernel_rfl) (by kernel_rfl)
end Go.Proofs.YtjnijlnmbjjgpaaGreatDoor.C
set_option maxRecDepth 100000
namespace Go.Proofs.YtjnijlnmbjjgpaaGreatDoor.C
open Go Go.Sx Go.Sx.S
def f13r0 : LS := [o 0 (.mv (b false))]
def f13r1 : LS := [o 5 (.call 16 []),o 1 (.mv (t 5))]
def f13r2 : LS := [o 7 (.mv (t 1)),o 8 (.bslice [(.string ⟨#[]⟩), (.string ⟨#[]⟩), (.string ⟨#[]⟩)] 3 [(0, 1), (1, 1), (2, 1)] [(.const (.string ⟨#[115, 97, 100, 100]⟩)), (.const (.string ⟨#[97]⟩)), (.const (.string ⟨#[109]⟩))]),o 9 (.call 20 [(t 7), (i 0), (t 8)]),o 6 (.mv (t 9)),o 10 (.ext (t 6) 0),o 11 (.ext (t 6) 1),o 12 (.ext (t 6) 2),o 2 (.new [(.int .i64 0), (.int .i64 0), (.string ⟨#[]⟩), (.slice none 0 0)]),
 q (.st 4 (t 2) (t 10)),o 3 (.mv (t 11)),o 4 (.mv (t 12))]
def f13r3 : LS := [o 13 (.mv (t 4)),o 14 (.mv (t 13)),
 g 15 14 (.fa 0 (t 2)),
 g 16 14 (.ld1 (t 15)),
 g 17 14 (.cmp .eql (t 16) (i 3)),o 18 (.pick (t 14) (t 17) (b false)),o 19 (.mv (t 18)),
 g 20 19 (.fa 1 (t 2)),
 g 21 19 (.ld1 (t 20)),
 g 22 19 (.cmp .eql (t 21) (i 1)),o 23 (.pick (t 19) (t 22) (b false)),o 24 (.mv (t 23)),
 g 25 24 (.mv (t 3)),
 g 26 24 (.len (t 25)),
 g 27 24 (.cmp .eql (t 26) (i 1)),o 28 (.pick (t 24) (t 27) (b false)),o 29 (.mv (t 28)),
 g 30 29 (.mv (t 3)),
 g 31 29 (.ixs 5 (t 30) (i 0)),
 g 32 29 (.fa 0 (t 31)),
 g 33 29 (.ld1 (t 32)),
 g 34 29 (.cmp .eql (t 33) (i 12)),o 35 (.pick (t 29) (t 34) (b false)),o 36 (.mv (t 35)),
 g 37 36 (.mv (t 3)),
 g 38 36 (.ixs 5 (t 37) (i 0)),
 g 39 36 (.fa 2 (t 38)),
 g 40 36 (.ld1 (t 39)),
 g 41 36 (.cmp .eql (t 40) (.const (.string ⟨#[109]⟩))),o 42 (.pick (t 36) (t 41) (b false)),o 0 (.mv (t 42))]
def f13 : SCode := (.seq (.ops f13r0) (.seq (.ops f13r1) (.seq (.ops f13r2) (.seq (.ops f13r3) .ret))))
theorem f13_calls : Sound Tryz.prog 13 43 f13 [.t 0] := sound_of mixed Tryz.func13 rfl (by kernel_rfl) (by kernel_rfl) (by kernel_rfl)
def f20r0 : LS := [o 6 (.new [(.int .i64 0), (.int .i64 0), (.string ⟨#[]⟩), (.slice none 0 0)]),o 7 (.new [(.slice none 0 0)]),o 8 (.mv (b false))]
def f20r1 : LS := [o 11 (.mv (t 2)),o 12 (.len (t 11)),o 13 (.cmp .eql (t 12) (i 0)),o 14 (.mv (t 13)),
 n 15 14 (.mv (t 0)),
 n 16 14 (.call 37 [(t 15), (.const (.pointer none))]),o 17 (.pick (t 14) (b true) (t 16))]
def f20r2 : LS := [o 18 (.build [(.int .i64 0), (.int .i64 0), (.string ⟨#[]⟩), (.slice none 0 0)] [] []),
 q (.st 4 (t 6) (t 18)),
 q (.st 1 (t 7) (.const (.slice none 0 0))),o 8 (.mv (b false))]
def f20r3 : LS := [o 21 (.mv (t 2)),o 22 (.ixs 1 (t 21) (i 0)),o 23 (.ld1 (t 22)),o 20 (.callq 38 []),o 24 (.callq 39 [(t 23)]),o 25 (.look .str .nilFunc true (t 20) (t 24)),o 19 (.mv (t 25)),o 26 (.ext (t 19) 0),o 27 (.ext (t 19) 1),o 9 (.mv (t 26)),o 8 (.mv (t 27))]
def f20r4 : LS := [o 28 (.mv (t 8)),o 29 (.un .not (t 28))]
def f20r5 : LS := [o 30 (.build [(.int .i64 0), (.int .i64 0), (.string ⟨#[]⟩), (.slice none 0 0)] [] []),
 q (.st 4 (t 6) (t 30)),
 q (.st 1 (t 7) (.const (.slice none 0 0))),o 8 (.mv (b false))]
def f20r6 : LS := [o 31 (.fn 40 [] [(t 6), (t 7)])]
def f20r7 : LS := [o 32 (.mv (t 0)),o 33 (.mv (t 1)),o 34 (.mv (t 2)),o 35 (.slc 1 (t 34) (some (i 1)) none),o 36 (.build [(.int .i64 0), (.string ⟨#[]⟩), (.slice none 0 0), (.slice none 0 0), (.slice none 0 0), (.bool false), (.int .i64 0), (.bool false), (.pointer none), (.int .i64 0), (.string ⟨#[]⟩), (.slice none 0 0), (.slice none 0 0)] [(8, 1), (9, 1), (11, 1)] [(t 32), (t 33), (t 35)]),o 37 (.box (t 36)),o 10 (.mv (t 37))]
def f20r8 : LS := [o 38 (.mv (t 9)),o 39 (.mv (t 10)),o 40 (.callv (t 38) [(t 39)]),
 q (.st 4 (t 6) (t 40))]
def f20p9 : LS := [o 41 (.ldn 4 (t 6)),o 42 (.mv (t 10)),o 43 (.nilck (t 42)),o 44 (.fa 12 (t 43))]
def f20r9 : LS := [o 45 (.ld1 (t 44)),
 q (.st 4 (t 6) (t 41)),
 q (.st 1 (t 7) (t 45)),o 8 (.mv (b true))]
def f20s9 : LS := [
 q (.st 4 (t 6) (t 41)),o 45 (.ld1 (t 44)),
 q (.st 1 (t 7) (t 45)),o 8 (.mv (b true))]
def f20 : SCode := (.seq (.ops f20r0) (.seq (.seq (.ops f20r1) (.cond (t 17) (.seq (.ops f20r2) .ret) .skip)) (.seq (.ops f20r3) (.seq (.seq (.ops f20r4) (.cond (t 29) (.seq (.ops f20r5) .ret) .skip)) (.seq (.dfr f20r6 none (t 31) []) (.seq (.ops f20r7) (.seq (.ops f20r8) (.seq (.two f20p9 f20r9 f20s9) .ret))))))))
def f38r0 : LS := [o 0 (.mv (.const (.map none)))]
def f38r1 : LS := [o 1 (.mkm),
 q (.mup .str (t 1) (.const (.string ⟨#[72, 83, 69, 84]⟩)) (u 81)),
 q (.mup .str (t 1) (.const (.string ⟨#[72, 71, 69, 84]⟩)) (u 82)),
 q (.mup .str (t 1) (.const (.string ⟨#[72, 68, 69, 76]⟩)) (u 83)),
 q (.mup .str (t 1) (.const (.string ⟨#[72, 76, 69, 78]⟩)) (u 84)),
 q (.mup .str (t 1) (.const (.string ⟨#[72, 71, 69, 84, 65, 76, 76]⟩)) (u 85)),
 q (.mup .str (t 1) (.const (.string ⟨#[72, 73, 78, 67, 82, 66, 89]⟩)) (u 86)),
 q (.mup .str (t 1) (.const (.string ⟨#[76, 80, 85, 83, 72]⟩)) (u 87)),
 q (.mup .str (t 1) (.const (.string ⟨#[82, 80, 85, 83, 72]⟩)) (u 88)),
 q (.mup .str (t 1) (.const (.string ⟨#[76, 80, 79, 80]⟩)) (u 89)),
 q (.mup .str (t 1) (.const (.string ⟨#[82, 80, 79, 80]⟩)) (u 90)),
 q (.mup .str (t 1) (.const (.string ⟨#[76, 76, 69, 78]⟩)) (u 91)),
 q (.mup .str (t 1) (.const (.string ⟨#[76, 73, 78, 68, 69, 88]⟩)) (u 92)),
 q (.mup .str (t 1) (.const (.string ⟨#[76, 82, 65, 78, 71, 69]⟩)) (u 93)),
 q (.mup .str (t 1) (.const (.string ⟨#[76, 83, 69, 84]⟩)) (u 94)),
 q (.mup .str (t 1) (.const (.string ⟨#[83, 65, 68, 68]⟩)) (u 95)),
 q (.mup .str (t 1) (.const (.string ⟨#[83, 82, 69, 77]⟩)) (u 96)),
 q (.mup .str (t 1) (.const (.string ⟨#[83, 73, 83, 77, 69, 77, 66, 69, 82]⟩)) (u 97)),
 q (.mup .str (t 1) (.const (.string ⟨#[83, 67, 65, 82, 68]⟩)) (u 98)),
 q (.mup .str (t 1) (.const (.string ⟨#[83, 77, 69, 77, 66, 69, 82, 83]⟩)) (u 99)),
 q (.mup .str (t 1) (.const (.string ⟨#[83, 73, 78, 84, 69, 82]⟩)) (u 100)),
 q (.mup .str (t 1) (.const (.string ⟨#[90, 65, 68, 68]⟩)) (u 101)),
 q (.mup .str (t 1) (.const (.string ⟨#[90, 82, 69, 77]⟩)) (u 102)),
 q (.mup .str (t 1) (.const (.string ⟨#[90, 83, 67, 79, 82, 69]⟩)) (u 103)),
 q (.mup .str (t 1) (.const (.string ⟨#[90, 73, 78, 67, 82, 66, 89]⟩)) (u 104)),
 q (.mup .str (t 1) (.const (.string ⟨#[90, 67, 65, 82, 68]⟩)) (u 105)),
 q (.mup .str (t 1) (.const (.string ⟨#[90, 82, 65, 78, 75]⟩)) (u 106)),
 q (.mup .str (t 1) (.const (.string ⟨#[90, 82, 65, 78, 71, 69]⟩)) (u 107)),
 q (.mup .str (t 1) (.const (.string ⟨#[90, 82, 65, 78, 71, 69, 66, 89, 83, 67, 79, 82, 69]⟩)) (u 108)),o 2 (.mv (t 1)),o 0 (.mv (t 2))]
def f38 : SCode := (.seq (.ops f38r0) (.seq (.ops f38r1) .ret))
theorem f38_calls : Sound Tryz.prog 38 3 f38 [.t 0] := sound_of mixed Tryz.func38 rfl (by kernel_rfl) (by kernel_rfl) (by kernel_rfl)
def f39r0 : LS := [o 2 (.mv e)]
def f39r1 : LS := [o 6 (.mv (t 0)),o 7 (.byts (t 6)),o 3 (.mv (t 7))]
def f39r2 : LS := [o 8 (.mv (t 3)),o 9 (.len (t 8)),o 10 (.mv (i 0))]
def f39r3 : LS := [o 11 (.cmp .lss (t 10) (t 9))]
def f39r4 : LS := [o 12 (.mv (t 10)),o 13 (.ixs 1 (t 8) (t 10)),o 14 (.ld1 (t 13)),o 4 (.mv (t 12)),o 5 (.mv (t 14))]
def f39r5 : LS := [o 15 (.mv (t 5)),o 16 (.cmp .geq (t 15) (.const (.int .u8 97))),o 17 (.mv (t 16)),
 g 18 17 (.mv (t 5)),
 g 19 17 (.cmp .leq (t 18) (.const (.int .u8 122))),o 20 (.pick (t 17) (t 19) (b false))]
def f39r6 : LS := [o 21 (.mv (t 3)),o 22 (.mv (t 4)),o 23 (.mv (t 5)),o 24 (.ar .sub (t 23) (.const (.int .u8 97))),o 25 (.ar .add (t 24) (.const (.int .u8 65))),o 26 (.ixs 1 (t 21) (t 22)),
 q (.stb (t 26) (t 25))]
def f39r7 : LS := [o 27 (.ar .add (t 10) (i 1)),o 10 (.mv (t 27))]
def f39l8 : SCode := (.seq (.ops f39r3) (.seq (.cond (t 11) .skip (.exit 0)) (.seq (.block 1 (.seq (.ops f39r4) (.seq (.ops f39r5) (.cond (t 20) (.ops f39r6) .skip)))) (.ops f39r7))))
def f39r9 : LS := [o 28 (.mv (t 3)),o 29 (.bstr (t 28)),o 2 (.mv (t 29))]
def f39 : SCode := (.seq (.ops f39r0) (.seq (.ops f39r1) (.seq (.seq (.ops f39r2) (.block 0 (.loop f39l8))) (.seq (.ops f39r9) .ret))))
theorem f39_calls : Sound Tryz.prog 39 30 f39 [.t 2] := sound_of mixed Tryz.func39 rfl (by kernel_rfl) (by kernel_rfl) (by kernel_rfl)
end Go.Proofs.YtjnijlnmbjjgpaaGreatDoor.C
set_option maxRecDepth 100000
namespace Go.Proofs.YtjnijlnmbjjgpaaGreatDoor.C
open Go Go.Sx Go.Sx.S
end Go.Proofs.YtjnijlnmbjjgpaaGreatDoor.C
set_option maxRecDepth 100000
namespace Go.Proofs.YtjnijlnmbjjgpaaGreatDoor.C
open Go Go.Sx Go.Sx.S
def f5r0 : LS := [o 5 (.box (t 2)),o 6 (.mv (b false))]
def f5r1 : LS := [o 8 (.ldn 3 (t 5)),o 9 (.call 11 [(t 8)]),o 10 (.mv (t 9)),
 n 11 10 (.mv (t 0)),
 n 12 10 (.call 12 [(t 11), (.const (.slice none 0 0))]),o 13 (.pick (t 10) (b true) (t 12)),o 14 (.mv (t 13)),
 n 15 14 (.fa 0 (t 5)),
 n 16 14 (.ld1 (t 15)),
 n 17 14 (.len (t 16)),
 n 18 14 (.cmp .lss (t 17) (i 1)),o 19 (.pick (t 14) (b true) (t 18))]
def f5r2 : LS := [o 20 (.call 13 []),o 6 (.mv (t 20))]
def f5r3 : LS := [o 21 (.fa 1 (t 5)),o 22 (.ld1 (t 21)),o 7 (.mv (t 22))]
def f5r4 : LS := [o 23 (.mv (t 0)),o 24 (.mv (t 1)),o 25 (.fa 0 (t 5)),o 26 (.ld1 (t 25)),o 27 (.mv (t 7)),o 28 (.bslice [(.string ⟨#[]⟩), (.string ⟨#[]⟩)] 2 [(0, 1), (1, 1)] [(.const (.string ⟨#[83, 65, 68, 68]⟩)), (t 27)]),o 29 (.call 15 [(t 26), (t 28)]),o 30 (.call 14 [(t 23), (t 24), (t 29)]),o 31 (.mv (t 30)),
 g 32 31 (.mv (t 0)),
 g 33 31 (.mv (t 1)),
 g 34 31 (.fa 0 (t 5)),
 g 35 31 (.ld1 (t 34)),
 g 36 31 (.mv (t 7)),
 g 37 31 (.bslice [(.string ⟨#[]⟩), (.string ⟨#[]⟩)] 2 [(0, 1), (1, 1)] [(.const (.string ⟨#[83, 82, 69, 77]⟩)), (t 36)]),
 g 38 31 (.call 15 [(t 35), (t 37)]),
 g 39 31 (.call 14 [(t 32), (t 33), (t 38)]),o 40 (.pick (t 31) (t 39) (b false)),o 41 (.mv (t 40)),
 g 42 41 (.mv (t 0)),
 g 43 41 (.mv (t 1)),
 g 44 41 (.mv (t 7)),
 g 45 41 (.fa 0 (t 5)),
 g 46 41 (.ld1 (t 45)),
 g 47 41 (.ixs 1 (t 46) (i 0)),
 g 48 41 (.ld1 (t 47)),
 g 49 41 (.bslice [(.string ⟨#[]⟩), (.string ⟨#[]⟩), (.string ⟨#[]⟩)] 3 [(0, 1), (1, 1), (2, 1)] [(.const (.string ⟨#[83, 73, 83, 77, 69, 77, 66, 69, 82]⟩)), (t 44), (t 48)]),
 g 50 41 (.call 14 [(t 42), (t 43), (t 49)]),o 51 (.pick (t 41) (t 50) (b false)),o 52 (.mv (t 51)),
 g 53 52 (.mv (t 0)),
 g 54 52 (.mv (t 1)),
 g 55 52 (.mv (t 7)),
 g 56 52 (.bslice [(.string ⟨#[]⟩), (.string ⟨#[]⟩)] 2 [(0, 1), (1, 1)] [(.const (.string ⟨#[83, 67, 65, 82, 68]⟩)), (t 55)]),
 g 57 52 (.call 14 [(t 53), (t 54), (t 56)]),o 58 (.pick (t 52) (t 57) (b false)),o 59 (.mv (t 58)),
 g 60 59 (.mv (t 0)),
 g 61 59 (.mv (t 1)),
 g 62 59 (.mv (t 7)),
 g 63 59 (.bslice [(.string ⟨#[]⟩), (.string ⟨#[]⟩)] 2 [(0, 1), (1, 1)] [(.const (.string ⟨#[83, 77, 69, 77, 66, 69, 82, 83]⟩)), (t 62)]),
 g 64 59 (.call 14 [(t 60), (t 61), (t 63)]),o 65 (.pick (t 59) (t 64) (b false)),o 66 (.mv (t 65)),
 g 67 66 (.mv (t 0)),
 g 68 66 (.mv (t 1)),
 g 69 66 (.mv (t 7)),
 g 70 66 (.fa 2 (t 5)),
 g 71 66 (.ld1 (t 70)),
 g 72 66 (.bslice [(.string ⟨#[]⟩), (.string ⟨#[]⟩), (.string ⟨#[]⟩)] 3 [(0, 1), (1, 1), (2, 1)] [(.const (.string ⟨#[83, 73, 78, 84, 69, 82]⟩)), (t 69), (t 71)]),
 g 73 66 (.call 14 [(t 67), (t 68), (t 72)]),o 74 (.pick (t 66) (t 73) (b false)),o 75 (.mv (t 74)),
 g 76 75 (.mv (t 0)),
 g 77 75 (.mv (t 1)),
 g 78 75 (.mv (t 7)),
 g 79 75 (.fa 2 (t 5)),
 g 80 75 (.ld1 (t 79)),
 g 81 75 (.mv (t 7)),
 g 82 75 (.bslice [(.string ⟨#[]⟩), (.string ⟨#[]⟩), (.string ⟨#[]⟩), (.string ⟨#[]⟩)] 4 [(0, 1), (1, 1), (2, 1), (3, 1)] [(.const (.string ⟨#[83, 73, 78, 84, 69, 82]⟩)), (t 78), (t 80), (t 81)]),
 g 83 75 (.call 14 [(t 76), (t 77), (t 82)]),o 84 (.pick (t 75) (t 83) (b false)),o 85 (.mv (t 84)),
 g 86 85 (.mv (t 0)),
 g 87 85 (.mv (t 1)),
 g 88 85 (.mv (t 7)),
 g 89 85 (.bslice [(.string ⟨#[]⟩), (.string ⟨#[]⟩)] 2 [(0, 1), (1, 1)] [(.const (.string ⟨#[83, 73, 78, 84, 69, 82]⟩)), (t 88)]),
 g 90 85 (.call 14 [(t 86), (t 87), (t 89)]),o 91 (.pick (t 85) (t 90) (b false)),o 92 (.mv (t 91)),
 g 93 92 (.call 13 []),o 94 (.pick (t 92) (t 93) (b false)),o 6 (.mv (t 94))]
def f5 : SCode := (.seq (.ops f5r0) (.seq (.seq (.ops f5r1) (.cond (t 19) (.seq (.ops f5r2) .ret) .skip)) (.seq (.ops f5r3) (.seq (.ops f5r4) .ret))))
theorem f5_calls : Sound Tryz.prog 5 95 f5 [.t 6] := sound_of mixed Tryz.func5 rfl (by kernel_rfl) (by kernel_rfl) (by kernel_rfl)
def f11r0 : LS := [o 1 (.box (t 0)),o 2 (.mv (b false))]
def f11r1 : LS := [o 3 (.fa 0 (t 1)),o 4 (.ld1 (t 3)),o 5 (.len (t 4)),o 6 (.cmp .gtr (t 5) (i 6)),o 7 (.mv (t 6)),
 n 8 7 (.fa 0 (t 1)),
 n 9 7 (.ld1 (t 8)),
 n 10 7 (.call 12 [(.const (.slice none 0 0)), (t 9)]),o 11 (.pick (t 7) (b true) (t 10)),o 12 (.mv (t 11)),
 n 13 12 (.fa 1 (t 1)),
 n 14 12 (.ld1 (t 13)),
 n 15 12 (.fa 2 (t 1)),
 n 16 12 (.ld1 (t 15)),
 n 17 12 (.bslice [(.string ⟨#[]⟩), (.string ⟨#[]⟩)] 2 [(0, 1), (1, 1)] [(t 14), (t 16)]),
 n 18 12 (.call 12 [(.const (.slice none 0 0)), (t 17)]),o 19 (.pick (t 12) (b true) (t 18)),o 2 (.mv (t 19))]
def f11 : SCode := (.seq (.ops f11r0) (.seq (.ops f11r1) .ret))
theorem f11_calls : Sound Tryz.prog 11 20 f11 [.t 2] := sound_of mixed Tryz.func11 rfl (by kernel_rfl) (by kernel_rfl) (by kernel_rfl)
def f12r0 : LS := [o 4 (.mv (b false))]
def f12r1 : LS := [o 7 (.mv (t 0)),o 8 (.len (t 7)),o 9 (.cmp .gtr (t 8) (i 20)),o 10 (.mv (t 9)),
 n 11 10 (.mv (t 1)),
 n 12 10 (.len (t 11)),
 n 13 10 (.cmp .gtr (t 12) (i 20)),o 14 (.pick (t 10) (b true) (t 13))]
def f12r2 : LS := [o 4 (.mv (b true))]
def f12r3 : LS := [o 5 (.mv (i 0))]
def f12r4 : LS := [o 15 (.mv (t 5)),o 16 (.mv (t 0)),o 17 (.len (t 16)),o 18 (.cmp .lss (t 15) (t 17))]
def f12r5 : LS := [o 21 (.mv (t 0)),o 22 (.mv (t 5)),o 23 (.ixs 8 (t 21) (t 22)),o 24 (.fa 0 (t 23)),o 25 (.ld1 (t 24)),o 26 (.lens (t 25)),o 27 (.cmp .gtr (t 26) (i 300)),o 28 (.mv (t 27)),
 n 29 28 (.mv (t 0)),
 n 30 28 (.mv (t 5)),
 n 31 28 (.ixs 8 (t 29) (t 30)),
 n 32 28 (.fa 1 (t 31)),
 n 33 28 (.ldn 7 (t 32)),
 n 34 28 (.call 30 [(t 33)]),o 35 (.pick (t 28) (b true) (t 34))]
def f12r6 : LS := [o 4 (.mv (b true))]
def f12r7 : LS := [o 19 (.mv (t 5)),o 20 (.ar .add (t 19) (i 1)),o 5 (.mv (t 20))]
def f12l8 : SCode := (.seq (.seq (.ops f12r4) (.cond (t 18) .skip (.exit 0))) (.seq (.block 1 (.seq (.ops f12r5) (.cond (t 35) (.seq (.ops f12r6) .ret) .skip))) (.ops f12r7)))
def f12r9 : LS := [o 6 (.mv (i 0))]
def f12r10 : LS := [o 36 (.mv (t 6)),o 37 (.mv (t 1)),o 38 (.len (t 37)),o 39 (.cmp .lss (t 36) (t 38))]
def f12r11 : LS := [o 42 (.mv (t 1)),o 43 (.mv (t 6)),o 44 (.ixs 1 (t 42) (t 43)),o 45 (.ld1 (t 44)),o 46 (.lens (t 45)),o 47 (.cmp .gtr (t 46) (i 300))]
def f12r12 : LS := [o 4 (.mv (b true))]
def f12r13 : LS := [o 40 (.mv (t 6)),o 41 (.ar .add (t 40) (i 1)),o 6 (.mv (t 41))]
def f12l14 : SCode := (.seq (.seq (.ops f12r10) (.cond (t 39) .skip (.exit 2))) (.seq (.block 3 (.seq (.ops f12r11) (.cond (t 47) (.seq (.ops f12r12) .ret) .skip))) (.ops f12r13)))
def f12r15 : LS := [o 4 (.mv (b false))]
def f12 : SCode := (.seq (.ops f12r0) (.seq (.seq (.ops f12r1) (.cond (t 14) (.seq (.ops f12r2) .ret) .skip)) (.seq (.seq (.ops f12r3) (.block 0 (.loop f12l8))) (.seq (.seq (.ops f12r9) (.block 2 (.loop f12l14))) (.seq (.ops f12r15) .ret)))))
theorem f12_calls : Sound Tryz.prog 12 48 f12 [.t 4] := sound_of mixed Tryz.func12 rfl (by kernel_rfl) (by kernel_rfl) (by kernel_rfl)
def f14r0 : LS := [o 6 (.mv (b false))]
def f14r1 : LS := [o 18 (.mv (t 0)),o 19 (.call 19 [(t 18)]),o 17 (.mv (t 19)),o 20 (.ext (t 17) 0),o 21 (.ext (t 17) 1),o 7 (.mv (t 20)),o 8 (.mv (t 21))]
def f14r2 : LS := [o 23 (.mv (t 0)),o 24 (.call 24 [(t 23)]),o 22 (.mv (t 24)),o 25 (.ext (t 22) 0),o 26 (.ext (t 22) 1),o 9 (.mv (t 25)),o 10 (.mv (t 26))]
def f14r3 : LS := [o 27 (.mv (t 10)),o 28 (.cmp .neq (t 27) (i 0)),o 29 (.mv (t 28)),
 n 30 29 (.mv (t 8)),
 n 31 29 (.cmp .neq (t 30) (i 0)),o 32 (.pick (t 29) (b true) (t 31))]
def f14r4 : LS := [o 33 (.mv (t 8)),o 34 (.mv (t 10)),o 35 (.cmp .eql (t 33) (t 34)),o 6 (.mv (t 35))]
def f14r5 : LS := [o 37 (.mv (t 7)),o 38 (.mv (t 1)),o 39 (.mv (t 2)),o 40 (.call 20 [(t 37), (t 38), (t 39)]),o 36 (.mv (t 40)),o 41 (.ext (t 36) 0),o 42 (.ext (t 36) 1),o 43 (.ext (t 36) 2),o 11 (.new [(.int .i64 0), (.int .i64 0), (.string ⟨#[]⟩), (.slice none 0 0)]),
 q (.st 4 (t 11) (t 41)),o 12 (.mv (t 42)),o 13 (.mv (t 43))]
def f14r6 : LS := [o 45 (.mv (t 9)),o 46 (.mv (t 1)),o 47 (.mv (t 2)),o 48 (.call 31 [(t 45), (t 46), (t 47)]),o 44 (.mv (t 48)),o 49 (.ext (t 44) 0),o 50 (.ext (t 44) 1),o 51 (.ext (t 44) 2),o 14 (.new [(.int .i64 0), (.int .i64 0), (.string ⟨#[]⟩), (.slice none 0 0)]),
 q (.st 4 (t 14) (t 49)),o 15 (.mv (t 50)),o 16 (.mv (t 51))]
def f14r7 : LS := [o 52 (.mv (t 13)),o 53 (.mv (t 16)),o 54 (.cmpb false (t 52) (t 53)),o 55 (.mv (t 54)),
 g 56 55 (.ldn 4 (t 11)),
 g 57 55 (.ldn 4 (t 14)),
 g 58 55 (.call 27 [(t 56), (t 57)]),o 59 (.pick (t 55) (t 58) (b false)),o 60 (.mv (t 59)),
 g 61 60 (.mv (t 12)),
 g 62 60 (.mv (t 15)),
 g 63 60 (.call 32 [(t 61), (t 62)]),o 64 (.pick (t 60) (t 63) (b false)),o 65 (.mv (t 64)),
 g 66 65 (.mv (t 7)),
 g 67 65 (.mv (t 9)),
 g 68 65 (.call 33 [(t 66), (t 67)]),o 69 (.pick (t 65) (t 68) (b false)),o 6 (.mv (t 69))]
def f14 : SCode := (.seq (.ops f14r0) (.seq (.ops f14r1) (.seq (.ops f14r2) (.seq (.seq (.ops f14r3) (.cond (t 32) (.seq (.ops f14r4) .ret) .skip)) (.seq (.ops f14r5) (.seq (.ops f14r6) (.seq (.ops f14r7) .ret)))))))
theorem f14_calls : Sound Tryz.prog 14 70 f14 [.t 6] := sound_of mixed Tryz.func14 rfl (by kernel_rfl) (by kernel_rfl) (by kernel_rfl)
def f15r0 : LS := [o 4 (.mv (.const (.slice none 0 0)))]
def f15r1 : LS := [o 5 (.mv (t 1)),o 6 (.mv (t 0)),o 7 (.app 1 16 [(.string ⟨#[]⟩)] (t 5) (t 6)),o 4 (.mv (t 7))]
def f15 : SCode := (.seq (.ops f15r0) (.seq (.ops f15r1) .ret))
theorem f15_calls : Sound Tryz.prog 15 8 f15 [.t 4] := sound_of mixed Tryz.func15 rfl (by kernel_rfl) (by kernel_rfl) (by kernel_rfl)
def f30r0 : LS := [o 1 (.box (t 0)),o 2 (.mv (b false))]
def f30r1 : LS := [o 7 (.fa 1 (t 1)),o 8 (.ld1 (t 7)),o 9 (.lens (t 8)),o 3 (.mv (t 9))]
def f30r2 : LS := [o 10 (.fa 2 (t 1)),o 11 (.ld1 (t 10)),o 12 (.len (t 11)),o 13 (.cmp .gtr (t 12) (i 40)),o 14 (.mv (t 13)),
 n 15 14 (.fa 3 (t 1)),
 n 16 14 (.ld1 (t 15)),
 n 17 14 (.len (t 16)),
 n 18 14 (.cmp .gtr (t 17) (i 40)),o 19 (.pick (t 14) (b true) (t 18)),o 20 (.mv (t 19)),
 n 21 20 (.fa 4 (t 1)),
 n 22 20 (.ld1 (t 21)),
 n 23 20 (.len (t 22)),
 n 24 20 (.cmp .gtr (t 23) (i 40)),o 25 (.pick (t 20) (b true) (t 24)),o 26 (.mv (t 25)),
 n 27 26 (.mv (t 3)),
 n 28 26 (.cmp .gtr (t 27) (i 2000)),o 29 (.pick (t 26) (b true) (t 28))]
def f30r3 : LS := [o 2 (.mv (b true))]
def f30r4 : LS := [o 4 (.mv (i 0))]
def f30r5 : LS := [o 30 (.mv (t 4)),o 31 (.fa 2 (t 1)),o 32 (.ld1 (t 31)),o 33 (.len (t 32)),o 34 (.cmp .lss (t 30) (t 33))]
def f30r6 : LS := [o 37 (.mv (t 3)),o 38 (.fa 2 (t 1)),o 39 (.ld1 (t 38)),o 40 (.mv (t 4)),o 41 (.ixs 2 (t 39) (t 40)),o 42 (.fa 0 (t 41)),o 43 (.ld1 (t 42)),o 44 (.lens (t 43)),o 45 (.ar .add (t 37) (t 44)),o 46 (.fa 2 (t 1)),o 47 (.ld1 (t 46)),o 48 (.mv (t 4)),o 49 (.ixs 2 (t 47) (t 48)),o 50 (.fa 1 (t 49)),o 51 (.ld1 (t 50)),o 52 (.lens (t 51)),o 53 (.ar .add (t 45) (t 52)),o 3 (.mv (t 53))]
def f30r7 : LS := [o 54 (.mv (t 3)),o 55 (.cmp .gtr (t 54) (i 2000))]
def f30r8 : LS := [o 2 (.mv (b true))]
def f30r9 : LS := [o 35 (.mv (t 4)),o 36 (.ar .add (t 35) (i 1)),o 4 (.mv (t 36))]
def f30l10 : SCode := (.seq (.seq (.ops f30r5) (.cond (t 34) .skip (.exit 0))) (.seq (.block 1 (.seq (.ops f30r6) (.seq (.ops f30r7) (.cond (t 55) (.seq (.ops f30r8) .ret) .skip)))) (.ops f30r9)))
def f30r11 : LS := [o 5 (.mv (i 0))]
def f30r12 : LS := [o 56 (.mv (t 5)),o 57 (.fa 3 (t 1)),o 58 (.ld1 (t 57)),o 59 (.len (t 58)),o 60 (.cmp .lss (t 56) (t 59))]
def f30r13 : LS := [o 63 (.mv (t 3)),o 64 (.fa 3 (t 1)),o 65 (.ld1 (t 64)),o 66 (.mv (t 5)),o 67 (.ixs 1 (t 65) (t 66)),o 68 (.ld1 (t 67)),o 69 (.lens (t 68)),o 70 (.ar .add (t 63) (t 69)),o 3 (.mv (t 70))]
def f30r14 : LS := [o 71 (.mv (t 3)),o 72 (.cmp .gtr (t 71) (i 2000))]
def f30r15 : LS := [o 2 (.mv (b true))]
def f30r16 : LS := [o 61 (.mv (t 5)),o 62 (.ar .add (t 61) (i 1)),o 5 (.mv (t 62))]
def f30l17 : SCode := (.seq (.seq (.ops f30r12) (.cond (t 60) .skip (.exit 2))) (.seq (.block 3 (.seq (.ops f30r13) (.seq (.ops f30r14) (.cond (t 72) (.seq (.ops f30r15) .ret) .skip)))) (.ops f30r16)))
def f30r18 : LS := [o 6 (.mv (i 0))]
def f30r19 : LS := [o 73 (.mv (t 6)),o 74 (.fa 4 (t 1)),o 75 (.ld1 (t 74)),o 76 (.len (t 75)),o 77 (.cmp .lss (t 73) (t 76))]
def f30r20 : LS := [o 80 (.mv (t 3)),o 81 (.fa 4 (t 1)),o 82 (.ld1 (t 81)),o 83 (.mv (t 6)),o 84 (.ixs 2 (t 82) (t 83)),o 85 (.fa 0 (t 84)),o 86 (.ld1 (t 85)),o 87 (.lens (t 86)),o 88 (.ar .add (t 80) (t 87)),o 3 (.mv (t 88))]
def f30r21 : LS := [o 89 (.mv (t 3)),o 90 (.cmp .gtr (t 89) (i 2000))]
def f30r22 : LS := [o 2 (.mv (b true))]
def f30r23 : LS := [o 78 (.mv (t 6)),o 79 (.ar .add (t 78) (i 1)),o 6 (.mv (t 79))]
def f30l24 : SCode := (.seq (.seq (.ops f30r19) (.cond (t 77) .skip (.exit 4))) (.seq (.block 5 (.seq (.ops f30r20) (.seq (.ops f30r21) (.cond (t 90) (.seq (.ops f30r22) .ret) .skip)))) (.ops f30r23)))
def f30r25 : LS := [o 2 (.mv (b false))]
def f30 : SCode := (.seq (.ops f30r0) (.seq (.ops f30r1) (.seq (.seq (.ops f30r2) (.cond (t 29) (.seq (.ops f30r3) .ret) .skip)) (.seq (.seq (.ops f30r4) (.block 0 (.loop f30l10))) (.seq (.seq (.ops f30r11) (.block 2 (.loop f30l17))) (.seq (.seq (.ops f30r18) (.block 4 (.loop f30l24))) (.seq (.ops f30r25) .ret)))))))
theorem f30_calls : Sound Tryz.prog 30 91 f30 [.t 2] := sound_of mixed Tryz.func30 rfl (by kernel_rfl) (by kernel_rfl) (by kernel_rfl)
def f31r0 : LS := [o 6 (.new [(.int .i64 0), (.int .i64 0), (.string ⟨#[]⟩), (.slice none 0 0)]),o 7 (.mv (.const (.slice none 0 0))),o 8 (.mv (b false))]
def f31r1 : LS := [o 18 (.mv (t 2)),o 19 (.len (t 18)),o 20 (.cmp .eql (t 19) (i 0))]
def f31r2 : LS := [o 21 (.build [(.int .i64 0), (.int .i64 0), (.string ⟨#[]⟩), (.slice none 0 0)] [] []),
 q (.st 4 (t 6) (t 21)),o 7 (.mv (.const (.slice none 0 0))),o 8 (.mv (b false))]
def f31r3 : LS := [o 22 (.mv (t 2)),o 23 (.ixs 1 (t 22) (i 0)),o 24 (.ld1 (t 23)),o 25 (.call 54 [(t 24)]),o 9 (.mv (t 25))]
def f31r4 : LS := [o 27 (.mv (t 9)),o 28 (.call 55 [(t 27)]),o 26 (.mv (t 28)),o 29 (.ext (t 26) 0),o 30 (.ext (t 26) 1),o 31 (.ext (t 26) 2),o 32 (.ext (t 26) 3),o 33 (.ext (t 26) 4),o 10 (.mv (t 29)),o 11 (.mv (t 30)),o 12 (.mv (t 31)),o 13 (.mv (t 32)),o 14 (.mv (t 33))]
def f31r5 : LS := [o 34 (.mv (t 14)),o 35 (.un .not (t 34))]
def f31r6 : LS := [o 36 (.build [(.int .i64 0), (.int .i64 0), (.string ⟨#[]⟩), (.slice none 0 0)] [] []),
 q (.st 4 (t 6) (t 36)),o 7 (.mv (.const (.slice none 0 0))),o 8 (.mv (b false))]
def f31r7 : LS := [o 37 (.mv (t 0)),o 38 (.mv (t 1)),o 39 (.mv (t 2)),o 40 (.slc 1 (t 39) (some (i 1)) none),o 41 (.build [(.slice none 0 0), (.int .i64 0), (.slice none 0 0), (.slice none 0 0), (.string ⟨#[]⟩)] [(0, 1), (1, 1), (2, 1)] [(t 37), (t 38), (t 40)]),o 42 (.build [(.slice none 0 0), (.int .i64 0), (.slice none 0 0), (.slice none 0 0), (.string ⟨#[]⟩), (.int .i64 0), (.string ⟨#[]⟩), (.slice none 0 0), (.slice none 0 0), (.slice none 0 0), (.bool false), (.int .i64 0), (.string ⟨#[]⟩)] [(0, 5)] [(t 41)]),o 43 (.box (t 42)),o 15 (.mv (t 43))]
def f31r8 : LS := [o 44 (.mv (t 15)),o 45 (.nilck (t 44)),o 46 (.fa 0 (t 45)),o 47 (.mv (t 10)),o 48 (.mv (t 11)),o 49 (.call 56 [(t 46), (t 47), (t 48)]),o 16 (.mv (t 49))]
def f31r9 : LS := [o 50 (.mv (t 16)),o 51 (.mv (t 50)),
 g 52 51 (.mv (t 9)),
 g 53 51 (.cmp .eql (t 52) (.const (.string ⟨#[72, 83, 69, 84]⟩))),
 g 54 51 (.mv (t 53)),
 n 55 54 (.mv (t 9)),
 n 56 54 (.cmp .eql (t 55) (.const (.string ⟨#[90, 65, 68, 68]⟩))),
 g 57 51 (.pick (t 54) (b true) (t 56)),o 58 (.pick (t 51) (t 57) (b false)),o 59 (.mv (t 58)),
 g 60 59 (.mv (t 15)),
 g 61 59 (.nilck (t 60)),
 g 62 59 (.fa 0 (t 61)),
 g 63 59 (.fa 2 (t 62)),
 g 64 59 (.ld1 (t 63)),
 g 65 59 (.len (t 64)),
 g 66 59 (.rem (t 65) (i 2)),
 g 67 59 (.cmp .eql (t 66) (i 0)),o 68 (.pick (t 59) (t 67) (b false))]
def f31r10 : LS := [o 69 (.mv (t 15)),o 70 (.nilck (t 69)),o 71 (.fa 0 (t 70)),o 72 (.fa 4 (t 71)),
 q (.st 1 (t 72) (.const (.string ⟨#[69, 82, 82, 32, 97, 114, 103, 115]⟩)))]
def f31r11 : LS := [o 16 (.mv (b false))]
def f31r12 : LS := [o 73 (.mv (t 16)),o 74 (.un .not (t 73)),o 75 (.mv (t 74)),
 n 76 75 (.mv (t 15)),
 n 77 75 (.mv (t 13)),
 n 78 75 (.call 57 [(t 76), (t 77)]),
 n 79 75 (.un .not (t 78)),o 80 (.pick (t 75) (b true) (t 79))]
def f31r13 : LS := [o 81 (.mv (t 15)),o 82 (.nilck (t 81)),o 83 (.fa 0 (t 82)),o 84 (.fa 4 (t 83)),o 85 (.ld1 (t 84)),o 86 (.call 49 [(t 85)]),
 q (.st 4 (t 6) (t 86)),o 7 (.mv (.const (.slice none 0 0))),o 8 (.mv (b true))]
def f31r14 : LS := [o 87 (.mv (t 15)),o 88 (.mv (t 15)),o 89 (.nilck (t 88)),o 90 (.fa 0 (t 89)),o 91 (.fa 2 (t 90)),o 92 (.ld1 (t 91)),o 93 (.ixs 1 (t 92) (i 0)),o 94 (.ld1 (t 93)),o 95 (.nilck (t 87)),o 96 (.fa 12 (t 95)),
 q (.st 1 (t 96) (t 94))]
def f31r15 : LS := [o 17 (.new [(.int .i64 0), (.int .i64 0), (.string ⟨#[]⟩), (.slice none 0 0)])]
def f31r16 : LS := [o 97 (.mv (t 9)),o 98 (.cmp .eql (t 97) (.const (.string ⟨#[83, 73, 78, 84, 69, 82]⟩)))]
def f31r17 : LS := [o 99 (.mv (t 15)),o 100 (.call 58 [(t 99)]),
 q (.st 4 (t 17) (t 100))]
def f31r18 : LS := [o 101 (.mv (t 15)),o 102 (.mv (t 12)),o 103 (.call 59 [(t 101), (t 102)])]
def f31r19 : LS := [o 104 (.mv (t 12))]
def f31r20 : LS := [o 106 (.cmp .eql (t 104) (i 2)),o 105 (.mv (t 106))]
def f31r21 : LS := [o 107 (.mv (t 15)),o 108 (.mv (t 9)),o 109 (.call 60 [(t 107), (t 108)]),
 q (.st 4 (t 17) (t 109))]
def f31r22 : LS := [o 111 (.cmp .eql (t 104) (i 3)),o 110 (.mv (t 111))]
def f31r23 : LS := [o 112 (.mv (t 15)),o 113 (.mv (t 9)),o 114 (.call 61 [(t 112), (t 113)]),
 q (.st 4 (t 17) (t 114))]
def f31r24 : LS := [o 116 (.cmp .eql (t 104) (i 4)),o 115 (.mv (t 116))]
def f31r25 : LS := [o 117 (.mv (t 15)),o 118 (.mv (t 9)),o 119 (.call 62 [(t 117), (t 118)]),
 q (.st 4 (t 17) (t 119))]
def f31r26 : LS := [o 121 (.cmp .eql (t 104) (i 5)),o 120 (.mv (t 121))]
def f31r27 : LS := [o 122 (.mv (t 15)),o 123 (.mv (t 9)),o 124 (.call 63 [(t 122), (t 123)]),
 q (.st 4 (t 17) (t 124))]
def f31r28 : LS := [o 125 (.mv (t 15)),o 126 (.nilck (t 125)),o 127 (.fa 0 (t 126)),o 128 (.fa 4 (t 127)),o 129 (.ld1 (t 128)),o 130 (.cmp .neq (t 129) e)]
def f31r29 : LS := [o 131 (.mv (t 15)),o 132 (.nilck (t 131)),o 133 (.fa 0 (t 132)),o 134 (.fa 4 (t 133)),o 135 (.ld1 (t 134)),o 136 (.call 49 [(t 135)]),
 q (.st 4 (t 6) (t 136)),o 7 (.mv (.const (.slice none 0 0))),o 8 (.mv (b true))]
def f31p30 : LS := [o 137 (.ldn 4 (t 17)),o 138 (.mv (t 15)),o 139 (.nilck (t 138)),o 140 (.fa 0 (t 139)),o 141 (.fa 3 (t 140))]
def f31r30 : LS := [o 142 (.ld1 (t 141)),
 q (.st 4 (t 6) (t 137)),o 7 (.mv (t 142)),o 8 (.mv (b true))]
def f31s30 : LS := [
 q (.st 4 (t 6) (t 137)),o 142 (.ld1 (t 141)),o 7 (.mv (t 142)),o 8 (.mv (b true))]
def f31 : SCode := (.seq (.ops f31r0) (.seq (.seq (.ops f31r1) (.cond (t 20) (.seq (.ops f31r2) .ret) .skip)) (.seq (.ops f31r3) (.seq (.ops f31r4) (.seq (.seq (.ops f31r5) (.cond (t 35) (.seq (.ops f31r6) .ret) .skip)) (.seq (.ops f31r7) (.seq (.ops f31r8) (.seq (.seq (.ops f31r9) (.cond (t 68) (.seq (.ops f31r10) (.ops f31r11)) .skip)) (.seq (.seq (.ops f31r12) (.cond (t 80) (.seq (.ops f31r13) .ret) .skip)) (.seq (.ops f31r14) (.seq (.ops f31r15) (.seq (.seq (.ops f31r16) (.cond (t 98) (.ops f31r17) (.seq (.ops f31r18) (.cond (t 103) (.seq (.ops f31r19) (.block 0 (.seq (.ops f31r20) (.cond (t 105) (.ops f31r21) (.seq (.ops f31r22) (.cond (t 110) (.ops f31r23) (.seq (.ops f31r24) (.cond (t 115) (.ops f31r25) (.seq (.ops f31r26) (.cond (t 120) (.ops f31r27) .skip)))))))))) .skip)))) (.seq (.seq (.ops f31r28) (.cond (t 130) (.seq (.ops f31r29) .ret) .skip)) (.seq (.two f31p30 f31r30 f31s30) .ret))))))))))))))
theorem f31_calls : Sound Tryz.prog 31 143 f31 [.cn 6 4, .t 7, .t 8] := sound_of mixed Tryz.func31 rfl (by kernel_rfl) (by kernel_rfl) (by kernel_rfl)
def f33r0 : LS := [o 3 (.box (t 1)),o 4 (.new [(.bool false)])]
def f33r1 : LS := [o 5 (.new [(.int .i64 0)]),
 q (.st 1 (t 5) (i 0))]
def f33r2 : LS := [o 9 (.mv (t 0)),o 10 (.call 52 [(t 9)]),o 6 (.mv (t 10))]
def f33r3 : LS := [o 11 (.mv (t 6)),o 12 (.eqn 3 false (t 11))]
def f33r4 : LS := [
 q (.st 1 (t 4) (b false))]
def f33r5 : LS := [o 13 (.mv (t 6))]
def f33r6 : LS := [o 7 (.mv (t 14))]
def f33r7 : LS := [o 8 (.new [(.int .i64 0), (.string ⟨#[]⟩), (.slice none 0 0), (.slice none 0 0), (.slice none 0 0), (.bool false), (.int .i64 0)]),
 q (.st 7 (t 8) (t 15))]
def f33r8 : LS := [o 16 (.ld1 (t 5)),o 17 (.ld1 (t 3)),o 18 (.len (t 17)),o 19 (.cmp .geq (t 16) (t 18)),o 20 (.mv (t 19)),
 n 21 20 (.mv (t 7)),
 n 22 20 (.ld1 (t 3)),
 n 23 20 (.ld1 (t 5)),
 n 24 20 (.ixs 8 (t 22) (t 23)),
 n 25 20 (.fa 0 (t 24)),
 n 26 20 (.ld1 (t 25)),
 n 27 20 (.cmp .neq (t 21) (t 26)),o 28 (.pick (t 20) (b true) (t 27)),o 29 (.mv (t 28)),
 n 30 29 (.ldn 7 (t 8)),
 n 31 29 (.ld1 (t 3)),
 n 32 29 (.ld1 (t 5)),
 n 33 29 (.ixs 8 (t 31) (t 32)),
 n 34 29 (.fa 1 (t 33)),
 n 35 29 (.ldn 7 (t 34)),
 n 36 29 (.call 53 [(t 30), (t 35)]),
 n 37 29 (.un .not (t 36)),o 38 (.pick (t 29) (b true) (t 37))]
def f33r9 : LS := [
 q (.st 1 (t 4) (b false))]
def f33r10 : LS := [o 39 (.ld1 (t 5)),o 40 (.ar .add (t 39) (i 1)),
 q (.st 1 (t 5) (t 40))]
def f33a11 : SCode := (.seq (.ops f33r6) (.ops f33r7))
def f33b11 : SCode := (.block 1 (.seq (.seq (.ops f33r8) (.cond (t 38) (.seq (.ops f33r9) .ret) .skip)) (.ops f33r10)))
def f33r12 : LS := [o 41 (.ld1 (t 5)),o 42 (.ld1 (t 3)),o 43 (.len (t 42)),o 44 (.cmp .eql (t 41) (t 43)),
 q (.st 1 (t 4) (t 44))]
def f33 : SCode := (.seq (.ops f33r0) (.seq (.ops f33r1) (.seq (.ops f33r2) (.seq (.seq (.ops f33r3) (.cond (t 12) (.seq (.ops f33r4) .ret) .skip)) (.seq (.seq (.ops f33r5) (.block 0 (.rangeF (t 13) [14, 15] f33a11 f33b11))) (.seq (.ops f33r12) .ret))))))
theorem f33_calls : Sound Tryz.prog 33 45 f33 [.c1 4] := sound_of mixed Tryz.func33 rfl (by kernel_rfl) (by kernel_rfl) (by kernel_rfl)
def f55r0 : LS := [o 2 (.mv (i 0)),o 3 (.mv (i 0)),o 4 (.mv (i 0)),o 5 (.mv (i 0)),o 6 (.mv (b false))]
def f55r1 : LS := [o 7 (.mv (t 0))]
def f55r2 : LS := [o 9 (.cmp .eql (t 7) (.const (.string ⟨#[72, 83, 69, 84]⟩))),o 8 (.mv (t 9))]
def f55r3 : LS := [o 2 (.mv (i 3)),o 3 (.mv (i 65536)),o 4 (.mv (i 2)),o 5 (.mv (i 0)),o 6 (.mv (b true))]
def f55r4 : LS := [o 11 (.cmp .eql (t 7) (.const (.string ⟨#[72, 71, 69, 84]⟩))),o 10 (.mv (t 11))]
def f55r5 : LS := [o 2 (.mv (i 2)),o 3 (.mv (i 2)),o 4 (.mv (i 2)),o 5 (.mv (i 0)),o 6 (.mv (b true))]
def f55r6 : LS := [o 13 (.cmp .eql (t 7) (.const (.string ⟨#[72, 68, 69, 76]⟩))),o 12 (.mv (t 13))]
def f55r7 : LS := [o 2 (.mv (i 2)),o 3 (.mv (i 65536)),o 4 (.mv (i 2)),o 5 (.mv (i 0)),o 6 (.mv (b true))]
def f55r8 : LS := [o 15 (.cmp .eql (t 7) (.const (.string ⟨#[72, 76, 69, 78]⟩))),o 14 (.mv (t 15))]
def f55r9 : LS := [o 16 (.cmp .eql (t 7) (.const (.string ⟨#[72, 71, 69, 84, 65, 76, 76]⟩))),o 14 (.mv (t 16))]
def f55r10 : LS := [o 2 (.mv (i 1)),o 3 (.mv (i 1)),o 4 (.mv (i 2)),o 5 (.mv (i 0)),o 6 (.mv (b true))]
def f55r11 : LS := [o 18 (.cmp .eql (t 7) (.const (.string ⟨#[72, 73, 78, 67, 82, 66, 89]⟩))),o 17 (.mv (t 18))]
def f55r12 : LS := [o 2 (.mv (i 3)),o 3 (.mv (i 3)),o 4 (.mv (i 2)),o 5 (.mv (i 2)),o 6 (.mv (b true))]
def f55r13 : LS := [o 20 (.cmp .eql (t 7) (.const (.string ⟨#[76, 80, 85, 83, 72]⟩))),o 19 (.mv (t 20))]
def f55r14 : LS := [o 21 (.cmp .eql (t 7) (.const (.string ⟨#[82, 80, 85, 83, 72]⟩))),o 19 (.mv (t 21))]
def f55r15 : LS := [o 2 (.mv (i 2)),o 3 (.mv (i 65536)),o 4 (.mv (i 3)),o 5 (.mv (i 0)),o 6 (.mv (b true))]
def f55r16 : LS := [o 23 (.cmp .eql (t 7) (.const (.string ⟨#[76, 80, 79, 80]⟩))),o 22 (.mv (t 23))]
def f55r17 : LS := [o 24 (.cmp .eql (t 7) (.const (.string ⟨#[82, 80, 79, 80]⟩))),o 22 (.mv (t 24))]
def f55r18 : LS := [o 25 (.cmp .eql (t 7) (.const (.string ⟨#[76, 76, 69, 78]⟩))),o 22 (.mv (t 25))]
def f55r19 : LS := [o 2 (.mv (i 1)),o 3 (.mv (i 1)),o 4 (.mv (i 3)),o 5 (.mv (i 0)),o 6 (.mv (b true))]
def f55r20 : LS := [o 27 (.cmp .eql (t 7) (.const (.string ⟨#[76, 73, 78, 68, 69, 88]⟩))),o 26 (.mv (t 27))]
def f55r21 : LS := [o 2 (.mv (i 2)),o 3 (.mv (i 2)),o 4 (.mv (i 3)),o 5 (.mv (i 1)),o 6 (.mv (b true))]
def f55r22 : LS := [o 29 (.cmp .eql (t 7) (.const (.string ⟨#[76, 82, 65, 78, 71, 69]⟩))),o 28 (.mv (t 29))]
def f55r23 : LS := [o 2 (.mv (i 3)),o 3 (.mv (i 3)),o 4 (.mv (i 3)),o 5 (.mv (i 3)),o 6 (.mv (b true))]
def f55r24 : LS := [o 31 (.cmp .eql (t 7) (.const (.string ⟨#[76, 83, 69, 84]⟩))),o 30 (.mv (t 31))]
def f55r25 : LS := [o 2 (.mv (i 3)),o 3 (.mv (i 3)),o 4 (.mv (i 3)),o 5 (.mv (i 1)),o 6 (.mv (b true))]
def f55r26 : LS := [o 33 (.cmp .eql (t 7) (.const (.string ⟨#[83, 65, 68, 68]⟩))),o 32 (.mv (t 33))]
def f55r27 : LS := [o 34 (.cmp .eql (t 7) (.const (.string ⟨#[83, 82, 69, 77]⟩))),o 32 (.mv (t 34))]
def f55r28 : LS := [o 2 (.mv (i 2)),o 3 (.mv (i 65536)),o 4 (.mv (i 4)),o 5 (.mv (i 0)),o 6 (.mv (b true))]
def f55r29 : LS := [o 36 (.cmp .eql (t 7) (.const (.string ⟨#[83, 73, 83, 77, 69, 77, 66, 69, 82]⟩))),o 35 (.mv (t 36))]
def f55r30 : LS := [o 2 (.mv (i 2)),o 3 (.mv (i 2)),o 4 (.mv (i 4)),o 5 (.mv (i 0)),o 6 (.mv (b true))]
def f55r31 : LS := [o 38 (.cmp .eql (t 7) (.const (.string ⟨#[83, 67, 65, 82, 68]⟩))),o 37 (.mv (t 38))]
def f55r32 : LS := [o 39 (.cmp .eql (t 7) (.const (.string ⟨#[83, 77, 69, 77, 66, 69, 82, 83]⟩))),o 37 (.mv (t 39))]
def f55r33 : LS := [o 2 (.mv (i 1)),o 3 (.mv (i 1)),o 4 (.mv (i 4)),o 5 (.mv (i 0)),o 6 (.mv (b true))]
def f55r34 : LS := [o 41 (.cmp .eql (t 7) (.const (.string ⟨#[83, 73, 78, 84, 69, 82]⟩))),o 40 (.mv (t 41))]
def f55r35 : LS := [o 2 (.mv (i 1)),o 3 (.mv (i 65536)),o 4 (.mv (i 4)),o 5 (.mv (i 0)),o 6 (.mv (b true))]
def f55r36 : LS := [o 43 (.cmp .eql (t 7) (.const (.string ⟨#[90, 65, 68, 68]⟩))),o 42 (.mv (t 43))]
def f55r37 : LS := [o 2 (.mv (i 3)),o 3 (.mv (i 65536)),o 4 (.mv (i 5)),o 5 (.mv (i 4)),o 6 (.mv (b true))]
def f55r38 : LS := [o 45 (.cmp .eql (t 7) (.const (.string ⟨#[90, 82, 69, 77]⟩))),o 44 (.mv (t 45))]
def f55r39 : LS := [o 2 (.mv (i 2)),o 3 (.mv (i 65536)),o 4 (.mv (i 5)),o 5 (.mv (i 0)),o 6 (.mv (b true))]
def f55r40 : LS := [o 47 (.cmp .eql (t 7) (.const (.string ⟨#[90, 83, 67, 79, 82, 69]⟩))),o 46 (.mv (t 47))]
def f55r41 : LS := [o 48 (.cmp .eql (t 7) (.const (.string ⟨#[90, 82, 65, 78, 75]⟩))),o 46 (.mv (t 48))]
def f55r42 : LS := [o 2 (.mv (i 2)),o 3 (.mv (i 2)),o 4 (.mv (i 5)),o 5 (.mv (i 0)),o 6 (.mv (b true))]
def f55r43 : LS := [o 50 (.cmp .eql (t 7) (.const (.string ⟨#[90, 73, 78, 67, 82, 66, 89]⟩))),o 49 (.mv (t 50))]
def f55r44 : LS := [o 2 (.mv (i 3)),o 3 (.mv (i 3)),o 4 (.mv (i 5)),o 5 (.mv (i 1)),o 6 (.mv (b true))]
def f55r45 : LS := [o 52 (.cmp .eql (t 7) (.const (.string ⟨#[90, 67, 65, 82, 68]⟩))),o 51 (.mv (t 52))]
def f55r46 : LS := [o 2 (.mv (i 1)),o 3 (.mv (i 1)),o 4 (.mv (i 5)),o 5 (.mv (i 0)),o 6 (.mv (b true))]
def f55r47 : LS := [o 54 (.cmp .eql (t 7) (.const (.string ⟨#[90, 82, 65, 78, 71, 69]⟩))),o 53 (.mv (t 54))]
def f55r48 : LS := [o 55 (.cmp .eql (t 7) (.const (.string ⟨#[90, 82, 65, 78, 71, 69, 66, 89, 83, 67, 79, 82, 69]⟩))),o 53 (.mv (t 55))]
def f55r49 : LS := [o 2 (.mv (i 3)),o 3 (.mv (i 3)),o 4 (.mv (i 5)),o 5 (.mv (i 3)),o 6 (.mv (b true))]
def f55r50 : LS := [o 2 (.mv (i 0)),o 3 (.mv (i 0)),o 4 (.mv (i 0)),o 5 (.mv (i 0)),o 6 (.mv (b false))]
def f55 : SCode := (.seq (.ops f55r0) (.seq (.seq (.ops f55r1) (.block 0 (.seq (.ops f55r2) (.cond (t 8) (.seq (.ops f55r3) .ret) (.seq (.ops f55r4) (.cond (t 10) (.seq (.ops f55r5) .ret) (.seq (.ops f55r6) (.cond (t 12) (.seq (.ops f55r7) .ret) (.seq (.seq (.ops f55r8) (.cond (t 14) .skip (.ops f55r9))) (.cond (t 14) (.seq (.ops f55r10) .ret) (.seq (.ops f55r11) (.cond (t 17) (.seq (.ops f55r12) .ret) (.seq (.seq (.ops f55r13) (.cond (t 19) .skip (.ops f55r14))) (.cond (t 19) (.seq (.ops f55r15) .ret) (.seq (.seq (.ops f55r16) (.cond (t 22) .skip (.seq (.ops f55r17) (.cond (t 22) .skip (.ops f55r18))))) (.cond (t 22) (.seq (.ops f55r19) .ret) (.seq (.ops f55r20) (.cond (t 26) (.seq (.ops f55r21) .ret) (.seq (.ops f55r22) (.cond (t 28) (.seq (.ops f55r23) .ret) (.seq (.ops f55r24) (.cond (t 30) (.seq (.ops f55r25) .ret) (.seq (.seq (.ops f55r26) (.cond (t 32) .skip (.ops f55r27))) (.cond (t 32) (.seq (.ops f55r28) .ret) (.seq (.ops f55r29) (.cond (t 35) (.seq (.ops f55r30) .ret) (.seq (.seq (.ops f55r31) (.cond (t 37) .skip (.ops f55r32))) (.cond (t 37) (.seq (.ops f55r33) .ret) (.seq (.ops f55r34) (.cond (t 40) (.seq (.ops f55r35) .ret) (.seq (.ops f55r36) (.cond (t 42) (.seq (.ops f55r37) .ret) (.seq (.ops f55r38) (.cond (t 44) (.seq (.ops f55r39) .ret) (.seq (.seq (.ops f55r40) (.cond (t 46) .skip (.ops f55r41))) (.cond (t 46) (.seq (.ops f55r42) .ret) (.seq (.ops f55r43) (.cond (t 49) (.seq (.ops f55r44) .ret) (.seq (.ops f55r45) (.cond (t 51) (.seq (.ops f55r46) .ret) (.seq (.seq (.ops f55r47) (.cond (t 53) .skip (.ops f55r48))) (.cond (t 53) (.seq (.ops f55r49) .ret) .skip)))))))))))))))))))))))))))))))))))))))))) (.seq (.ops f55r50) .ret)))
theorem f55_calls : Sound Tryz.prog 55 56 f55 [.t 2, .t 3, .t 4, .t 5, .t 6] := sound_of mixed Tryz.func55 rfl (by kernel_rfl) (by kernel_rfl) (by kernel_rfl)
def f57r0 : LS := [o 4 (.mv (b false))]
def f57r1 : LS := [o 5 (.mv (i 1))]
def f57r2 : LS := [o 8 (.mv (t 5)),o 9 (.mv (t 0)),o 10 (.nilck (t 9)),o 11 (.fa 0 (t 10)),o 12 (.fa 2 (t 11)),o 13 (.ld1 (t 12)),o 14 (.len (t 13)),o 15 (.cmp .lss (t 8) (t 14))]
def f57r3 : LS := [o 18 (.mv (t 1)),o 19 (.cmp .eql (t 18) (i 4)),o 20 (.mv (t 19)),
 g 21 20 (.mv (t 5)),
 g 22 20 (.rem (t 21) (i 2)),
 g 23 20 (.cmp .eql (t 22) (i 1)),o 24 (.pick (t 20) (t 23) (b false)),o 25 (.mv (t 24)),
 n 26 25 (.mv (t 1)),
 n 27 25 (.cmp .eql (t 26) (i 3)),o 28 (.pick (t 25) (b true) (t 27)),o 29 (.mv (t 28)),
 n 30 29 (.mv (t 1)),
 n 31 29 (.mv (t 5)),
 n 32 29 (.cmp .eql (t 30) (t 31)),
 n 33 29 (.mv (t 32)),
 g 34 33 (.mv (t 1)),
 g 35 33 (.cmp .lss (t 34) (i 3)),
 n 36 29 (.pick (t 33) (t 35) (b false)),o 37 (.pick (t 29) (b true) (t 36))]
def f57r4 : LS := [o 39 (.mv (t 0)),o 40 (.nilck (t 39)),o 41 (.fa 0 (t 40)),o 42 (.mv (t 5)),o 43 (.call 121 [(t 41), (t 42)]),o 38 (.mv (t 43)),o 44 (.ext (t 38) 0),o 45 (.ext (t 38) 1),o 6 (.mv (t 44)),o 7 (.mv (t 45))]
def f57r5 : LS := [o 46 (.mv (t 7)),o 47 (.un .not (t 46))]
def f57r6 : LS := [o 4 (.mv (b false))]
def f57r7 : LS := [o 16 (.mv (t 5)),o 17 (.ar .add (t 16) (i 1)),o 5 (.mv (t 17))]
def f57l8 : SCode := (.seq (.seq (.ops f57r2) (.cond (t 15) .skip (.exit 0))) (.seq (.block 1 (.seq (.ops f57r3) (.cond (t 37) (.seq (.ops f57r4) (.seq (.ops f57r5) (.cond (t 47) (.seq (.ops f57r6) .ret) .skip))) .skip))) (.ops f57r7)))
def f57r9 : LS := [o 4 (.mv (b true))]
def f57 : SCode := (.seq (.ops f57r0) (.seq (.seq (.ops f57r1) (.block 0 (.loop f57l8))) (.seq (.ops f57r9) .ret)))
theorem f57_calls : Sound Tryz.prog 57 48 f57 [.t 4] := sound_of mixed Tryz.func57 rfl (by kernel_rfl) (by kernel_rfl) (by kernel_rfl)
def f58r0 : LS := [o 2 (.new [(.int .i64 0), (.int .i64 0), (.string ⟨#[]⟩), (.slice none 0 0)])]
def f58r1 : LS := [o 3 (.mv (.const (.slice none 0 0)))]
def f58r2 : LS := [o 4 (.mv (i 0))]
def f58r3 : LS := [o 7 (.mv (t 4)),o 8 (.mv (t 0)),o 9 (.nilck (t 8)),o 10 (.fa 0 (t 9)),o 11 (.fa 2 (t 10)),o 12 (.ld1 (t 11)),o 13 (.len (t 12)),o 14 (.cmp .lss (t 7) (t 13))]
def f58r4 : LS := [o 17 (.mv (t 0)),o 18 (.mv (t 0)),o 19 (.nilck (t 18)),o 20 (.fa 0 (t 19)),o 21 (.fa 2 (t 20)),o 22 (.ld1 (t 21)),o 23 (.mv (t 4)),o 24 (.ixs 1 (t 22) (t 23)),o 25 (.ld1 (t 24)),o 26 (.nilck (t 17)),o 27 (.fa 12 (t 26)),
 q (.st 1 (t 27) (t 25))]
def f58r5 : LS := [o 28 (.mv (t 0)),o 29 (.call 59 [(t 28), (i 4)]),o 30 (.un .not (t 29))]
def f58r6 : LS := [o 31 (.build [(.int .i64 0), (.int .i64 0), (.string ⟨#[]⟩), (.slice none 0 0)] [] []),
 q (.st 4 (t 2) (t 31))]
def f58r7 : LS := [o 32 (.mv (t 4)),o 33 (.cmp .eql (t 32) (i 0))]
def f58r8 : LS := [o 34 (.mv (t 0)),o 35 (.nilck (t 34)),o 36 (.fa 5 (t 35)),o 37 (.fa 3 (t 36)),o 38 (.ld1 (t 37)),o 3 (.mv (t 38))]
def f58r9 : LS := [o 5 (.mv (.const (.slice none 0 0)))]
def f58r10 : LS := [o 6 (.mv (i 0))]
def f58r11 : LS := [o 39 (.mv (t 6)),o 40 (.mv (t 3)),o 41 (.len (t 40)),o 42 (.cmp .lss (t 39) (t 41))]
def f58r12 : LS := [o 45 (.mv (t 0)),o 46 (.mv (t 3)),o 47 (.mv (t 6)),o 48 (.ixs 1 (t 46) (t 47)),o 49 (.ld1 (t 48)),o 50 (.call 122 [(t 45), (t 49)])]
def f58r13 : LS := [o 51 (.mv (t 5)),o 52 (.mv (t 3)),o 53 (.mv (t 6)),o 54 (.ixs 1 (t 52) (t 53)),o 55 (.ld1 (t 54)),o 56 (.bslice [(.string ⟨#[]⟩)] 1 [(0, 1)] [(t 55)]),o 57 (.app 1 16 [(.string ⟨#[]⟩)] (t 51) (t 56)),o 5 (.mv (t 57))]
def f58r14 : LS := [o 43 (.mv (t 6)),o 44 (.ar .add (t 43) (i 1)),o 6 (.mv (t 44))]
def f58l15 : SCode := (.seq (.seq (.ops f58r11) (.cond (t 42) .skip (.exit 2))) (.seq (.block 3 (.seq (.ops f58r12) (.cond (t 50) (.ops f58r13) .skip))) (.ops f58r14)))
def f58r16 : LS := [o 58 (.mv (t 5)),o 3 (.mv (t 58))]
def f58r17 : LS := [o 15 (.mv (t 4)),o 16 (.ar .add (t 15) (i 1)),o 4 (.mv (t 16))]
def f58l18 : SCode := (.seq (.seq (.ops f58r3) (.cond (t 14) .skip (.exit 0))) (.seq (.block 1 (.seq (.ops f58r4) (.seq (.seq (.ops f58r5) (.cond (t 30) (.seq (.ops f58r6) .ret) .skip)) (.seq (.seq (.ops f58r7) (.cond (t 33) (.seq (.ops f58r8) (.exit 1)) .skip)) (.seq (.ops f58r9) (.seq (.seq (.ops f58r10) (.block 2 (.loop f58l15))) (.ops f58r16))))))) (.ops f58r17)))
def f58r19 : LS := [o 59 (.mv (t 3)),o 60 (.call 123 [(t 59)]),
 q (.st 4 (t 2) (t 60))]
def f58 : SCode := (.seq (.ops f58r0) (.seq (.ops f58r1) (.seq (.seq (.ops f58r2) (.block 0 (.loop f58l18))) (.seq (.ops f58r19) .ret))))
theorem f58_calls : Sound Tryz.prog 58 61 f58 [.cn 2 4] := sound_of mixed Tryz.func58 rfl (by kernel_rfl) (by kernel_rfl) (by kernel_rfl)
def f62r0 : LS := [o 4 (.new [(.int .i64 0), (.int .i64 0), (.string ⟨#[]⟩), (.slice none 0 0)])]
def f62r1 : LS := [o 7 (.mv (t 1))]
def f62r2 : LS := [o 9 (.cmp .eql (t 7) (.const (.string ⟨#[83, 65, 68, 68]⟩))),o 8 (.mv (t 9))]
def f62r3 : LS := [o 5 (.mv (i 0))]
def f62r4 : LS := [o 6 (.mv (i 1))]
def f62r5 : LS := [o 10 (.mv (t 6)),o 11 (.mv (t 0)),o 12 (.nilck (t 11)),o 13 (.fa 0 (t 12)),o 14 (.fa 2 (t 13)),o 15 (.ld1 (t 14)),o 16 (.len (t 15)),o 17 (.cmp .lss (t 10) (t 16))]
def f62r6 : LS := [o 20 (.mv (t 0)),o 21 (.mv (t 0)),o 22 (.nilck (t 21)),o 23 (.fa 0 (t 22)),o 24 (.fa 2 (t 23)),o 25 (.ld1 (t 24)),o 26 (.mv (t 6)),o 27 (.ixs 1 (t 25) (t 26)),o 28 (.ld1 (t 27)),o 29 (.call 122 [(t 20), (t 28)]),o 30 (.mv (t 29)),
 n 31 30 (.mv (t 0)),
 n 32 30 (.mv (t 6)),
 n 33 30 (.call 126 [(t 31), (t 32), (i 1), (i 1)]),o 34 (.pick (t 30) (b true) (t 33))]
def f62r7 : LS := [o 35 (.mv (t 5)),o 36 (.ar .add (t 35) (i 1)),o 5 (.mv (t 36))]
def f62r8 : LS := [o 37 (.mv (t 0)),o 38 (.mv (t 0)),o 39 (.nilck (t 38)),o 40 (.fa 0 (t 39)),o 41 (.fa 2 (t 40)),o 42 (.ld1 (t 41)),o 43 (.mv (t 6)),o 44 (.ixs 1 (t 42) (t 43)),o 45 (.ld1 (t 44)),o 46 (.build [(.int .i64 0), (.string ⟨#[]⟩), (.string ⟨#[]⟩), (.string ⟨#[]⟩), (.int .i64 0)] [(0, 1), (2, 1)] [(i 12), (t 45)]),o 47 (.mv (t 0)),o 48 (.nilck (t 47)),o 49 (.fa 5 (t 48)),o 50 (.fa 3 (t 49)),o 51 (.ld1 (t 50)),o 52 (.len (t 51)),o 53 (.mv (t 5)),o 54 (.ar .add (t 52) (t 53)),o 55 (.call 127 [(t 37), (t 46), (t 54)]),o 56 (.un .not (t 55))]
def f62r9 : LS := [o 57 (.build [(.int .i64 0), (.int .i64 0), (.string ⟨#[]⟩), (.slice none 0 0)] [] []),
 q (.st 4 (t 4) (t 57))]
def f62r10 : LS := [o 18 (.mv (t 6)),o 19 (.ar .add (t 18) (i 1)),o 6 (.mv (t 19))]
def f62l11 : SCode := (.seq (.seq (.ops f62r5) (.cond (t 17) .skip (.exit 1))) (.seq (.block 2 (.seq (.seq (.ops f62r6) (.cond (t 34) (.exit 2) .skip)) (.seq (.ops f62r7) (.seq (.ops f62r8) (.cond (t 56) (.seq (.ops f62r9) .ret) .skip))))) (.ops f62r10)))
def f62r12 : LS := [o 58 (.mv (t 5)),o 59 (.call 128 [(t 58)]),
 q (.st 4 (t 4) (t 59))]
def f62r13 : LS := [o 61 (.cmp .eql (t 7) (.const (.string ⟨#[83, 82, 69, 77]⟩))),o 60 (.mv (t 61))]
def f62r14 : LS := [o 62 (.mv (t 0)),o 63 (.call 131 [(t 62), (i 4), (i 13)]),
 q (.st 4 (t 4) (t 63))]
def f62r15 : LS := [o 65 (.cmp .eql (t 7) (.const (.string ⟨#[83, 73, 83, 77, 69, 77, 66, 69, 82]⟩))),o 64 (.mv (t 65))]
def f62r16 : LS := [o 66 (.mv (t 0)),o 67 (.mv (t 0)),o 68 (.nilck (t 67)),o 69 (.fa 0 (t 68)),o 70 (.fa 2 (t 69)),o 71 (.ld1 (t 70)),o 72 (.ixs 1 (t 71) (i 1)),o 73 (.ld1 (t 72)),o 74 (.call 122 [(t 66), (t 73)])]
def f62r17 : LS := [o 75 (.call 128 [(i 1)]),
 q (.st 4 (t 4) (t 75))]
def f62r18 : LS := [o 76 (.call 128 [(i 0)]),
 q (.st 4 (t 4) (t 76))]
def f62r19 : LS := [o 78 (.cmp .eql (t 7) (.const (.string ⟨#[83, 67, 65, 82, 68]⟩))),o 77 (.mv (t 78))]
def f62r20 : LS := [o 79 (.mv (t 0)),o 80 (.nilck (t 79)),o 81 (.fa 5 (t 80)),o 82 (.fa 3 (t 81)),o 83 (.ld1 (t 82)),o 84 (.len (t 83)),o 85 (.call 128 [(t 84)]),
 q (.st 4 (t 4) (t 85))]
def f62r21 : LS := [o 86 (.mv (t 0)),o 87 (.nilck (t 86)),o 88 (.fa 5 (t 87)),o 89 (.fa 3 (t 88)),o 90 (.ld1 (t 89)),o 91 (.call 123 [(t 90)]),
 q (.st 4 (t 4) (t 91))]
def f62 : SCode := (.seq (.ops f62r0) (.seq (.seq (.ops f62r1) (.block 0 (.seq (.ops f62r2) (.cond (t 8) (.seq (.ops f62r3) (.seq (.seq (.ops f62r4) (.block 1 (.loop f62l11))) (.seq (.ops f62r12) .ret))) (.seq (.ops f62r13) (.cond (t 60) (.seq (.ops f62r14) .ret) (.seq (.ops f62r15) (.cond (t 64) (.seq (.seq (.ops f62r16) (.cond (t 74) (.seq (.ops f62r17) .ret) .skip)) (.seq (.ops f62r18) .ret)) (.seq (.ops f62r19) (.cond (t 77) (.seq (.ops f62r20) .ret) .skip)))))))))) (.seq (.ops f62r21) .ret)))
theorem f62_calls : Sound Tryz.prog 62 92 f62 [.cn 4 4] := sound_of mixed Tryz.func62 rfl (by kernel_rfl) (by kernel_rfl) (by kernel_rfl)
def f122r0 : LS := [o 4 (.mv (b false))]
def f122r1 : LS := [o 5 (.mv (i 0))]
def f122r2 : LS := [o 6 (.mv (t 5)),o 7 (.mv (t 0)),o 8 (.nilck (t 7)),o 9 (.fa 5 (t 8)),o 10 (.fa 3 (t 9)),o 11 (.ld1 (t 10)),o 12 (.len (t 11)),o 13 (.cmp .lss (t 6) (t 12))]
def f122r3 : LS := [o 16 (.mv (t 0)),o 17 (.nilck (t 16)),o 18 (.fa 5 (t 17)),o 19 (.fa 3 (t 18)),o 20 (.ld1 (t 19)),o 21 (.mv (t 5)),o 22 (.ixs 1 (t 20) (t 21)),o 23 (.ld1 (t 22)),o 24 (.mv (t 1)),o 25 (.cmp .eql (t 23) (t 24))]
def f122r4 : LS := [o 4 (.mv (b true))]
def f122r5 : LS := [o 14 (.mv (t 5)),o 15 (.ar .add (t 14) (i 1)),o 5 (.mv (t 15))]
def f122l6 : SCode := (.seq (.seq (.ops f122r2) (.cond (t 13) .skip (.exit 0))) (.seq (.block 1 (.seq (.ops f122r3) (.cond (t 25) (.seq (.ops f122r4) .ret) .skip))) (.ops f122r5)))
def f122r7 : LS := [o 4 (.mv (b false))]
def f122 : SCode := (.seq (.ops f122r0) (.seq (.seq (.ops f122r1) (.block 0 (.loop f122l6))) (.seq (.ops f122r7) .ret)))
theorem f122_calls : Sound Tryz.prog 122 26 f122 [.t 4] := sound_of mixed Tryz.func122 rfl (by kernel_rfl) (by kernel_rfl) (by kernel_rfl)
def f123r0 : LS := [o 2 (.new [(.int .i64 0), (.int .i64 0), (.string ⟨#[]⟩), (.slice none 0 0)])]
def f123r1 : LS := [o 5 (.build [(.int .i64 0), (.int .i64 0), (.string ⟨#[]⟩), (.slice none 0 0)] [(0, 1)] [(i 5)]),o 3 (.new [(.int .i64 0), (.int .i64 0), (.string ⟨#[]⟩), (.slice none 0 0)]),
 q (.st 4 (t 3) (t 5))]
def f123r2 : LS := [o 4 (.mv (i 0))]
def f123r3 : LS := [o 6 (.mv (t 4)),o 7 (.mv (t 0)),o 8 (.len (t 7)),o 9 (.cmp .lss (t 6) (t 8))]
def f123r4 : LS := [o 12 (.fa 3 (t 3)),o 13 (.ld1 (t 12)),o 14 (.mv (t 0)),o 15 (.mv (t 4)),o 16 (.ixs 1 (t 14) (t 15)),o 17 (.ld1 (t 16)),o 18 (.callq 130 [(t 17)]),o 19 (.bslice [(.int .i64 0), (.int .i64 0), (.string ⟨#[]⟩), (.slice none 0 0)] 1 [(0, 4)] [(t 18)]),o 20 (.app 4 56 [(.int .i64 0), (.int .i64 0), (.string ⟨#[]⟩), (.slice none 0 0)] (t 13) (t 19)),o 21 (.fa 3 (t 3)),
 q (.st 1 (t 21) (t 20))]
def f123r5 : LS := [o 10 (.mv (t 4)),o 11 (.ar .add (t 10) (i 1)),o 4 (.mv (t 11))]
def f123l6 : SCode := (.seq (.seq (.ops f123r3) (.cond (t 9) .skip (.exit 0))) (.seq (.block 1 (.ops f123r4)) (.ops f123r5)))
def f123r7 : LS := [o 22 (.ldn 4 (t 3)),
 q (.st 4 (t 2) (t 22))]
def f123 : SCode := (.seq (.ops f123r0) (.seq (.ops f123r1) (.seq (.seq (.ops f123r2) (.block 0 (.loop f123l6))) (.seq (.ops f123r7) .ret))))
theorem f123_calls : Sound Tryz.prog 123 23 f123 [.cn 2 4] := sound_of mixed Tryz.func123 rfl (by kernel_rfl) (by kernel_rfl) (by kernel_rfl)
def f125r0 : LS := [o 6 (.mv (b false))]
def f125r1 : LS := [o 12 (.mv (t 1)),o 13 (.cmp .eql (t 12) (i 2))]
def f125r2 : LS := [o 15 (.mv (t 0)),o 16 (.mv (t 2)),o 17 (.call 129 [(t 15), (t 16)]),o 14 (.mv (t 17)),o 18 (.ext (t 14) 0),o 19 (.ext (t 14) 1),o 7 (.mv (t 18)),o 8 (.mv (t 19))]
def f125r3 : LS := [o 20 (.mv (t 8)),o 6 (.mv (t 20))]
def f125r4 : LS := [o 21 (.mv (t 1)),o 22 (.cmp .eql (t 21) (i 4))]
def f125r5 : LS := [o 23 (.mv (t 0)),o 24 (.mv (t 2)),o 25 (.call 122 [(t 23), (t 24)]),o 6 (.mv (t 25))]
def f125r6 : LS := [o 27 (.mv (t 0)),o 28 (.mv (t 2)),o 29 (.call 138 [(t 27), (t 28)]),o 26 (.mv (t 29)),o 30 (.ext (t 26) 0),o 31 (.ext (t 26) 1),o 32 (.ext (t 26) 2),o 9 (.mv (t 30)),o 10 (.mv (t 31)),o 11 (.mv (t 32))]
def f125r7 : LS := [o 33 (.mv (t 11)),o 6 (.mv (t 33))]
def f125 : SCode := (.seq (.ops f125r0) (.seq (.seq (.ops f125r1) (.cond (t 13) (.seq (.ops f125r2) (.seq (.ops f125r3) .ret)) .skip)) (.seq (.seq (.ops f125r4) (.cond (t 22) (.seq (.ops f125r5) .ret) .skip)) (.seq (.ops f125r6) (.seq (.ops f125r7) .ret)))))
theorem f125_calls : Sound Tryz.prog 125 34 f125 [.t 6] := sound_of mixed Tryz.func125 rfl (by kernel_rfl) (by kernel_rfl) (by kernel_rfl)
def f126r0 : LS := [o 8 (.mv (b false))]
def f126r1 : LS := [o 10 (.mv (t 2)),o 9 (.mv (t 10))]
def f126r2 : LS := [o 11 (.mv (t 9)),o 12 (.mv (t 1)),o 13 (.cmp .lss (t 11) (t 12))]
def f126r3 : LS := [o 17 (.mv (t 0)),o 18 (.nilck (t 17)),o 19 (.fa 0 (t 18)),o 20 (.fa 2 (t 19)),o 21 (.ld1 (t 20)),o 22 (.mv (t 9)),o 23 (.ixs 1 (t 21) (t 22)),o 24 (.ld1 (t 23)),o 25 (.mv (t 0)),o 26 (.nilck (t 25)),o 27 (.fa 0 (t 26)),o 28 (.fa 2 (t 27)),o 29 (.ld1 (t 28)),o 30 (.mv (t 1)),o 31 (.ixs 1 (t 29) (t 30)),o 32 (.ld1 (t 31)),o 33 (.cmp .eql (t 24) (t 32))]
def f126r4 : LS := [o 8 (.mv (b true))]
def f126r5 : LS := [o 14 (.mv (t 9)),o 15 (.mv (t 3)),o 16 (.ar .add (t 14) (t 15)),o 9 (.mv (t 16))]
def f126l6 : SCode := (.seq (.seq (.ops f126r2) (.cond (t 13) .skip (.exit 0))) (.seq (.block 1 (.seq (.ops f126r3) (.cond (t 33) (.seq (.ops f126r4) .ret) .skip))) (.ops f126r5)))
def f126r7 : LS := [o 8 (.mv (b false))]
def f126 : SCode := (.seq (.ops f126r0) (.seq (.seq (.ops f126r1) (.block 0 (.loop f126l6))) (.seq (.ops f126r7) .ret)))
theorem f126_calls : Sound Tryz.prog 126 34 f126 [.t 8] := sound_of mixed Tryz.func126 rfl (by kernel_rfl) (by kernel_rfl) (by kernel_rfl)
def f127r0 : LS := [o 4 (.box (t 1)),o 6 (.mv (b false))]
def f127r1 : LS := [o 7 (.mv (t 2)),o 8 (.cmp .gtr (t 7) (i 65536)),o 9 (.mv (t 8)),
 n 10 9 (.mv (t 0)),
 n 11 9 (.nilck (t 10)),
 n 12 9 (.fa 12 (t 11)),
 n 13 9 (.ld1 (t 12)),
 n 14 9 (.lens (t 13)),
 n 15 9 (.cmp .gtr (t 14) (i 1048576)),o 16 (.pick (t 9) (b true) (t 15)),o 17 (.mv (t 16)),
 n 18 17 (.fa 2 (t 4)),
 n 19 17 (.ld1 (t 18)),
 n 20 17 (.lens (t 19)),
 n 21 17 (.cmp .gtr (t 20) (i 1048576)),o 22 (.pick (t 17) (b true) (t 21)),o 23 (.mv (t 22)),
 n 24 23 (.fa 3 (t 4)),
 n 25 23 (.ld1 (t 24)),
 n 26 23 (.lens (t 25)),
 n 27 23 (.cmp .gtr (t 26) (i 1048576)),o 28 (.pick (t 23) (b true) (t 27))]
def f127r2 : LS := [o 29 (.mv (t 0)),o 30 (.nilck (t 29)),o 31 (.fa 0 (t 30)),o 32 (.fa 4 (t 31)),
 q (.st 1 (t 32) (.const (.string ⟨#[69, 82, 82, 32, 108, 111, 110, 103]⟩)))]
def f127r3 : LS := [o 6 (.mv (b false))]
def f127r4 : LS := [o 33 (.mv (t 0)),o 34 (.nilck (t 33)),o 35 (.fa 0 (t 34)),o 36 (.fa 3 (t 35)),o 37 (.ld1 (t 36)),o 38 (.len (t 37)),o 39 (.cmp .eql (t 38) (i 0))]
def f127r5 : LS := [o 40 (.mv (t 0)),o 41 (.nilck (t 40)),o 42 (.fa 0 (t 41)),o 43 (.mv (t 0)),o 44 (.nilck (t 43)),o 45 (.fa 12 (t 44)),o 46 (.ld1 (t 45)),o 47 (.call 220 [(t 42), (t 46)])]
def f127r6 : LS := [o 48 (.mv (t 0)),o 49 (.nilck (t 48)),o 50 (.fa 12 (t 49)),o 51 (.ld1 (t 50)),o 52 (.fa 1 (t 4)),
 q (.st 1 (t 52) (t 51))]
def f127r7 : LS := [o 53 (.mv (t 0)),o 54 (.mv (t 0)),o 55 (.nilck (t 54)),o 56 (.fa 0 (t 55)),o 57 (.fa 3 (t 56)),o 58 (.ld1 (t 57)),o 59 (.ldn 5 (t 4)),o 60 (.bslice [(.int .i64 0), (.string ⟨#[]⟩), (.string ⟨#[]⟩), (.string ⟨#[]⟩), (.int .i64 0)] 1 [(0, 5)] [(t 59)]),o 61 (.app 5 64 [(.int .i64 0), (.string ⟨#[]⟩), (.string ⟨#[]⟩), (.string ⟨#[]⟩), (.int .i64 0)] (t 58) (t 60)),o 62 (.nilck (t 53)),o 63 (.fa 0 (t 62)),o 64 (.fa 3 (t 63)),
 q (.st 1 (t 64) (t 61))]
def f127r8 : LS := [o 6 (.mv (b true))]
def f127 : SCode := (.seq (.ops f127r0) (.seq (.seq (.ops f127r1) (.cond (t 28) (.seq (.ops f127r2) (.seq (.ops f127r3) .ret)) .skip)) (.seq (.seq (.ops f127r4) (.cond (t 39) (.ops f127r5) .skip)) (.seq (.ops f127r6) (.seq (.ops f127r7) (.seq (.ops f127r8) .ret))))))
theorem f127_calls : Sound Tryz.prog 127 65 f127 [.t 6] := sound_of mixed Tryz.func127 rfl (by kernel_rfl) (by kernel_rfl) (by kernel_rfl)
def f131r0 : LS := [o 6 (.new [(.int .i64 0), (.int .i64 0), (.string ⟨#[]⟩), (.slice none 0 0)])]
def f131r1 : LS := [o 7 (.mv (i 0))]
def f131r2 : LS := [o 8 (.mv (i 1))]
def f131r3 : LS := [o 9 (.mv (t 8)),o 10 (.mv (t 0)),o 11 (.nilck (t 10)),o 12 (.fa 0 (t 11)),o 13 (.fa 2 (t 12)),o 14 (.ld1 (t 13)),o 15 (.len (t 14)),o 16 (.cmp .lss (t 9) (t 15))]
def f131r4 : LS := [o 19 (.mv (t 0)),o 20 (.mv (t 1)),o 21 (.mv (t 0)),o 22 (.nilck (t 21)),o 23 (.fa 0 (t 22)),o 24 (.fa 2 (t 23)),o 25 (.ld1 (t 24)),o 26 (.mv (t 8)),o 27 (.ixs 1 (t 25) (t 26)),o 28 (.ld1 (t 27)),o 29 (.call 125 [(t 19), (t 20), (t 28)]),o 30 (.mv (t 29)),
 g 31 30 (.mv (t 0)),
 g 32 30 (.mv (t 8)),
 g 33 30 (.call 126 [(t 31), (t 32), (i 1), (i 1)]),
 g 34 30 (.un .not (t 33)),o 35 (.pick (t 30) (t 34) (b false))]
def f131r5 : LS := [o 36 (.mv (t 7)),o 37 (.ar .add (t 36) (i 1)),o 7 (.mv (t 37))]
def f131r6 : LS := [o 38 (.mv (t 0)),o 39 (.mv (t 2)),o 40 (.mv (t 0)),o 41 (.nilck (t 40)),o 42 (.fa 0 (t 41)),o 43 (.fa 2 (t 42)),o 44 (.ld1 (t 43)),o 45 (.mv (t 8)),o 46 (.ixs 1 (t 44) (t 45)),o 47 (.ld1 (t 46)),o 48 (.build [(.int .i64 0), (.string ⟨#[]⟩), (.string ⟨#[]⟩), (.string ⟨#[]⟩), (.int .i64 0)] [(0, 1), (2, 1)] [(t 39), (t 47)]),o 49 (.call 134 [(t 38), (t 48)])]
def f131r7 : LS := [o 17 (.mv (t 8)),o 18 (.ar .add (t 17) (i 1)),o 8 (.mv (t 18))]
def f131l8 : SCode := (.seq (.seq (.ops f131r3) (.cond (t 16) .skip (.exit 0))) (.seq (.block 1 (.seq (.ops f131r4) (.cond (t 35) (.seq (.ops f131r5) (.ops f131r6)) .skip))) (.ops f131r7)))
def f131r9 : LS := [o 50 (.mv (t 7)),o 51 (.call 128 [(t 50)]),
 q (.st 4 (t 6) (t 51))]
def f131 : SCode := (.seq (.ops f131r0) (.seq (.ops f131r1) (.seq (.seq (.ops f131r2) (.block 0 (.loop f131l8))) (.seq (.ops f131r9) .ret))))
theorem f131_calls : Sound Tryz.prog 131 52 f131 [.cn 6 4] := sound_of mixed Tryz.func131 rfl (by kernel_rfl) (by kernel_rfl) (by kernel_rfl)
def f134r0 : LS := [o 3 (.box (t 1))]
def f134r1 : LS := [o 4 (.mv (t 0)),o 5 (.nilck (t 4)),o 6 (.fa 12 (t 5)),o 7 (.ld1 (t 6)),o 8 (.fa 1 (t 3)),
 q (.st 1 (t 8) (t 7))]
def f134r2 : LS := [o 9 (.mv (t 0)),o 10 (.mv (t 0)),o 11 (.nilck (t 10)),o 12 (.fa 0 (t 11)),o 13 (.fa 3 (t 12)),o 14 (.ld1 (t 13)),o 15 (.ldn 5 (t 3)),o 16 (.bslice [(.int .i64 0), (.string ⟨#[]⟩), (.string ⟨#[]⟩), (.string ⟨#[]⟩), (.int .i64 0)] 1 [(0, 5)] [(t 15)]),o 17 (.app 5 64 [(.int .i64 0), (.string ⟨#[]⟩), (.string ⟨#[]⟩), (.string ⟨#[]⟩), (.int .i64 0)] (t 14) (t 16)),o 18 (.nilck (t 9)),o 19 (.fa 0 (t 18)),o 20 (.fa 3 (t 19)),
 q (.st 1 (t 20) (t 17))]
def f134 : SCode := (.seq (.ops f134r0) (.seq (.ops f134r1) (.ops f134r2)))
theorem f134_calls : Sound Tryz.prog 134 21 f134 [] := sound_of mixed Tryz.func134 rfl (by kernel_rfl) (by kernel_rfl) (by kernel_rfl)
end Go.Proofs.YtjnijlnmbjjgpaaGreatDoor.C
set_option maxRecDepth 100000
namespace Go.Proofs.YtjnijlnmbjjgpaaGreatDoor.C
open Go Go.Sx Go.Sx.S
def f235r0 : LS := [o 4 (.mv (i 0)),o 5 (.mv (b false))]
def f235r1 : LS := [o 10 (.mv (t 0)),o 11 (.len (t 10)),o 6 (.mv (t 11))]
def f235r2 : LS := [o 12 (.mv (t 6)),o 7 (.mv (i 0)),o 8 (.mv (t 12))]
def f235r3 : LS := [o 13 (.mv (t 7)),o 14 (.mv (t 8)),o 15 (.cmp .lss (t 13) (t 14))]
def f235r4 : LS := [o 16 (.mv (t 7)),o 17 (.mv (t 8)),o 18 (.ar .add (t 16) (t 17)),o 19 (.cvt .u64 (t 18)),o 20 (.sh .u64 false 1 (t 19)),o 21 (.cvt .i64 (t 20)),o 9 (.mv (t 21))]
def f235r5 : LS := [o 22 (.mv (t 0)),o 23 (.mv (t 9)),o 24 (.ixs 1 (t 22) (t 23)),o 25 (.ld1 (t 24)),o 26 (.mv (t 1)),o 27 (.call 277 [(t 25), (t 26)])]
def f235r6 : LS := [o 28 (.mv (t 9)),o 29 (.ar .add (t 28) (i 1)),o 7 (.mv (t 29))]
def f235r7 : LS := [o 30 (.mv (t 9)),o 8 (.mv (t 30))]
def f235l8 : SCode := (.seq (.seq (.ops f235r3) (.cond (t 15) .skip (.exit 0))) (.block 1 (.seq (.ops f235r4) (.seq (.ops f235r5) (.cond (t 27) (.ops f235r6) (.ops f235r7))))))
def f235r9 : LS := [o 31 (.mv (t 7)),o 32 (.mv (t 7)),o 33 (.mv (t 6)),o 34 (.cmp .lss (t 32) (t 33)),o 35 (.mv (t 34)),
 g 36 35 (.mv (t 0)),
 g 37 35 (.mv (t 7)),
 g 38 35 (.ixs 1 (t 36) (t 37)),
 g 39 35 (.ld1 (t 38)),
 g 40 35 (.mv (t 1)),
 g 41 35 (.cmp .eql (t 39) (t 40)),
 g 42 35 (.mv (t 41)),
 n 43 42 (.mv (t 0)),
 n 44 42 (.mv (t 7)),
 n 45 42 (.ixs 1 (t 43) (t 44)),
 n 46 42 (.ld1 (t 45)),
 n 47 42 (.call 278 [(t 46)]),
 n 48 42 (.mv (t 47)),
 g 49 48 (.mv (t 1)),
 g 50 48 (.call 278 [(t 49)]),
 n 51 42 (.pick (t 48) (t 50) (b false)),
 g 52 35 (.pick (t 42) (b true) (t 51)),o 53 (.pick (t 35) (t 52) (b false)),o 4 (.mv (t 31)),o 5 (.mv (t 53))]
def f235 : SCode := (.seq (.ops f235r0) (.seq (.ops f235r1) (.seq (.ops f235r2) (.seq (.block 0 (.loop f235l8)) (.seq (.ops f235r9) .ret)))))
theorem f235_calls : Sound Tryz.prog 235 54 f235 [.t 4, .t 5] := sound_of mixed Tryz.func235 rfl (by kernel_rfl) (by kernel_rfl) (by kernel_rfl)
def f277r0 : LS := [o 4 (.mv (b false))]
def f277r1 : LS := [o 5 (.mv (t 0)),o 6 (.call 306 [(t 5)]),o 7 (.mv (t 6)),
 g 8 7 (.mv (t 1)),
 g 9 7 (.call 306 [(t 8)]),
 g 10 7 (.un .not (t 9)),o 11 (.pick (t 7) (t 10) (b false)),o 12 (.mv (t 11)),
 n 13 12 (.mv (t 0)),
 n 14 12 (.mv (t 1)),
 n 15 12 (.cmp .lss (t 13) (t 14)),o 16 (.pick (t 12) (b true) (t 15)),o 4 (.mv (t 16))]
def f277 : SCode := (.seq (.ops f277r0) (.seq (.ops f277r1) .ret))
theorem f277_calls : Sound Tryz.prog 277 17 f277 [.t 4] := sound_of mixed Tryz.func277 rfl (by kernel_rfl) (by kernel_rfl) (by kernel_rfl)
def f278r0 : LS := [o 2 (.mv (b false))]
def f278r1 : LS := [o 3 (.mv (t 0)),o 4 (.mv (t 0)),o 5 (.cmp .neq (t 3) (t 4)),o 2 (.mv (t 5))]
def f278 : SCode := (.seq (.ops f278r0) (.seq (.ops f278r1) .ret))
theorem f278_calls : Sound Tryz.prog 278 6 f278 [.t 2] := sound_of mixed Tryz.func278 rfl (by kernel_rfl) (by kernel_rfl) (by kernel_rfl)
def f306r0 : LS := [o 2 (.mv (b false))]
def f306r1 : LS := [o 3 (.mv (t 0)),o 4 (.mv (t 0)),o 5 (.cmp .neq (t 3) (t 4)),o 2 (.mv (t 5))]
def f306 : SCode := (.seq (.ops f306r0) (.seq (.ops f306r1) .ret))
theorem f306_calls : Sound Tryz.prog 306 6 f306 [.t 2] := sound_of mixed Tryz.func306 rfl (by kernel_rfl) (by kernel_rfl) (by kernel_rfl)
end Go.Proofs.YtjnijlnmbjjgpaaGreatDoor.C
set_option maxRecDepth 100000
namespace Go.Proofs.YtjnijlnmbjjgpaaGreatDoor.C
open Go Go.Sx Go.Sx.S
def g59r0 : LS := [o 4 (.mv (b false))]
def g59t1 : OTree := (.one (o 9 (.mv (t 0)))
 (.one (o 10 (.nilck (t 9)))
 (.one (o 11 (.fa 0 (t 10)))
 (.one (o 12 (.mv (t 0)))
 (.one (o 13 (.nilck (t 12)))
 (.one (o 14 (.fa 12 (t 13)))
 (.one (o 15 (.ld1 (t 14)))
 (.one (o 16 (.mv (t 1)))
 (.both (.one (o 17 (.call 124 [(t 11), (t 15), (t 16)]))
 (.one (o 8 (.mv (t 17)))
 (.one (o 18 (.ext (t 8) 0))
 (.one (o 19 (.ext (t 8) 1))
 (.one (o 20 (.ext (t 8) 2))
 (.one (o 5 (.new [(.int .i64 0), (.string ⟨#[]⟩), (.slice none 0 0), (.slice none 0 0), (.slice none 0 0), (.bool false), (.int .i64 0)]))
 (.one (q (.st 7 (t 5) (t 18)))
 (.one (o 6 (.mv (t 19)))
 (.one (o 7 (.mv (t 20)))
 .done))))))))) (.one (o 5 (.new [(.int .i64 0), (.string ⟨#[]⟩), (.slice none 0 0), (.slice none 0 0), (.slice none 0 0), (.bool false), (.int .i64 0)]))
 (.one (o 17 (.call 124 [(t 11), (t 15), (t 16)]))
 (.one (o 8 (.mv (t 17)))
 (.one (o 18 (.ext (t 8) 0))
 (.one (o 19 (.ext (t 8) 1))
 (.one (o 20 (.ext (t 8) 2))
 (.one (q (.st 7 (t 5) (t 18)))
 (.one (o 6 (.mv (t 19)))
 (.one (o 7 (.mv (t 20)))
 .done))))))))))))))))))
def g59r2 : LS := [o 21 (.mv (t 0)),o 22 (.ldn 7 (t 5)),o 23 (.nilck (t 21)),o 24 (.fa 5 (t 23)),
 q (.st 7 (t 24) (t 22))]
def g59r3 : LS := [o 25 (.mv (t 7)),o 4 (.mv (t 25))]
def g59 : SCode := (.seq (.ops g59r0) (.seq (.tree [9, 10, 11, 12, 13, 14, 15, 16, 17, 8, 18, 19, 20, 5, 6, 7] g59t1) (.seq (.ops g59r2) (.seq (.ops g59r3) .ret))))
theorem g59_calls : SoundD Tryz.prog 59 26 g59 [.t 4] := soundD_of (fl := false) mixed Tryz.func59 rfl (by kernel_rfl) (by kernel_rfl) (by kernel_rfl)
end Go.Proofs.YtjnijlnmbjjgpaaGreatDoor.C
namespace Go.Proofs.YtjnijlnmbjjgpaaGreatDoor
open Go Go.Sx C
theorem cellWW {h : Heap} {b o : Nat} {l : List Value} {v : Value} (hb : BlkW h b l) (hv : l[o]? = some v) : cell h b o = some v := by
 obtain ⟨e, k, x, _⟩ := hb
 simp [cell, x, hv]
def upB (c : UInt8) : UInt8 := if 97 ≤ c.toNat ∧ c.toNat ≤ 122 then UInt8.ofNat (c.toNat - 32) else c
def up (s : ByteArray) : ByteArray := ⟨⟨s.data.toList.map upB⟩⟩
def cellB (l : List UInt8) : List Value := l.map fun b => .int .u8 b.toNat
def upTo (bs : List UInt8) (q : Nat) : List UInt8 := (bs.take q).map upB ++ bs.drop q
theorem cellB_len (l : List UInt8) : (cellB l).length = l.length := by simp [cellB]
theorem upTo_len (bs : List UInt8) (q : Nat) : (upTo bs q).length = bs.length := by simp [upTo]; omega
theorem upTo_all (bs : List UInt8) : upTo bs bs.length = bs.map upB := by simp [upTo]
theorem upTo_zero (bs : List UInt8) : upTo bs 0 = bs := by simp [upTo]
theorem upTo_at {bs : List UInt8} {q : Nat} (hq : q < bs.length) : upTo bs q = (bs.take q).map upB ++ (bs[q] :: bs.drop (q + 1)) := by
 rw [upTo, List.drop_eq_getElem_cons hq]
theorem upTo_succ {bs : List UInt8} {q : Nat} (hq : q < bs.length) : upTo bs (q + 1) = (bs.take q).map upB ++ (upB bs[q] :: bs.drop (q + 1)) := by
 rw [upTo, List.take_succ_eq_append_getElem hq, List.map_append, List.append_assoc]; rfl
theorem take_len {bs : List UInt8} {q : Nat} (hq : q < bs.length) : (cellB ((bs.take q).map upB)).length = q := by simp [cellB]; omega
theorem blk_at {bs : List UInt8} {q : Nat} (hq : q < bs.length) (tail : List Value) : cellB (upTo bs q) ++ tail = cellB ((bs.take q).map upB) ++ ([.int .u8 bs[q].toNat] ++ (cellB (bs.drop (q + 1)) ++ tail)) := by
 rw [upTo_at hq]; simp only [cellB, List.map_append, List.map_cons, List.append_assoc, List.cons_append, List.nil_append]
theorem blk_succ {bs : List UInt8} {q : Nat} (hq : q < bs.length) (tail : List Value) : cellB (upTo bs (q + 1)) ++ tail = cellB ((bs.take q).map upB) ++ ([.int .u8 (upB bs[q]).toNat] ++ (cellB (bs.drop (q + 1)) ++ tail)) := by
 rw [upTo_succ hq]; simp only [cellB, List.map_append, List.map_cons, List.append_assoc, List.cons_append, List.nil_append]
theorem cell_q {h : Heap} {b q : Nat} {bs : List UInt8} {tail : List Value} (hb : BlkW h b (cellB (upTo bs q) ++ tail)) (hq : q < bs.length) : cell h b (0 + q * 1) = some (.int .u8 bs[q].toNat) := by
 rw [Nat.zero_add, Nat.mul_one]
 refine cellWW hb ?_
 rw [blk_at hq, List.getElem?_append_right (by rw [take_len hq]; exact Nat.le_refl _), take_len hq]
 simp
theorem put_q {h h' : Heap} {b q : Nat} {bs : List UInt8} {tail : List Value} {z : Int} (hq : q < bs.length) (hz : z = (upB bs[q]).toNat) (hp : PutW h h' b (splice (cellB (upTo bs q) ++ tail) (0 + q * 1) [.int .u8 z])) :
  BlkW h' b (cellB (upTo bs (q + 1)) ++ tail) := by
 have := hp.blk
 rw [Nat.zero_add, Nat.mul_one, blk_at hq] at this
 rw [blk_succ hq, ← hz]
 have e := splice_at (cellB ((bs.take q).map upB)) [.int .u8 bs[q].toNat] (cellB (bs.drop (q + 1)) ++ tail) [.int .u8 z] rfl
 rw [take_len hq] at e
 rwa [e] at this
theorem same_q {bs : List UInt8} {q : Nat} (hq : q < bs.length) (hu : upB bs[q] = bs[q]) : upTo bs (q + 1) = upTo bs q := by
 rw [upTo_succ hq, upTo_at hq, hu]
theorem upB_lo {c : UInt8} (h1 : 97 ≤ (c.toNat : Int)) (h2 : (c.toNat : Int) ≤ 122) : ((upB c).toNat : Int) = c.toNat - 32 := by
 unfold upB
 rw [if_pos ⟨by omega, by omega⟩]
 have : (UInt8.ofNat (c.toNat - 32)).toNat = c.toNat - 32 := by
  rw [UInt8.toNat_ofNat']; omega
 rw [this]; omega
theorem upB_not {c : UInt8} (h : ¬ (97 ≤ (c.toNat : Int) ∧ (c.toNat : Int) ≤ 122)) : upB c = c := by
 unfold upB
 rw [if_neg (fun ⟨a, b⟩ => h ⟨by omega, by omega⟩)]
theorem wrap8 {x : Int} (h0 : 0 ≤ x) (h1 : x < 256) : IntKind.u8.wrap x = x := by
 have e : IntKind.u8.wrap x = x % 256 := by simp [IntKind.wrap, IntKind.bits, IntKind.signed]
 rw [e]; omega
theorem cells_pre {h : Heap} {b : Nat} {l tail : List Value} (hb : BlkW h b (l ++ tail)) : Cells h b 0 l := by
 intro i v hv
 refine cellWW hb ?_
 rw [Nat.zero_add, List.getElem?_append_left (List.getElem?_eq_some_iff.1 hv).1]; exact hv
theorem rword_calls {h : Heap} {s : ByteArray} (hs : s.size < 4611686018427387904) : CallsH Tryz.prog 54 [.string s] h (Ret fun r h' => r = .string (up s) ∧ Chg [] h h') := by
 obtain ⟨⟨bs⟩⟩ := s
 have hs : bs.length < 4611686018427387904 := hs
 refine f54_calls (by simp) ?_
 intro c b h1 hc g
 have hc : bs.length ≤ c := hc
 obtain ⟨tail, ht⟩ : ∃ tail, tail = List.replicate (c - bs.length) (Value.int .u8 0) := ⟨_, rfl⟩
 have gb : BlkW h1 b (cellB bs ++ tail) := by rw [ht]; exact g.blk
 refine loop_intro (fun q : Nat => [(3, .slice (some ⟨b, 0, none⟩) bs.length c), (4, .int .i64 q)]) (fun q h' => q ≤ bs.length ∧ BlkW h' b (cellB (upTo bs q) ++ tail) ∧ h'.size = h1.size ∧ ∀ k, k ≠ b → h'[k]? = h1[k]?) (fun q => bs.length - q) 0 ⟨rfl, rfl, trivial⟩ ⟨Nat.zero_le _, by rw [upTo_zero]; exact gb, rfl, fun _ _ => rfl⟩ ?_
 rintro q h2 ⟨hq, hb, hsz, hold⟩
 have next : ∀ {h3 : Heap}, q < bs.length → BlkW h3 b (cellB (upTo bs (q + 1)) ++ tail) → h3.size = h1.size → (∀ k, k ≠ b → h3[k]? = h1[k]?) → q + 1 ≤ bs.length ∧ BlkW h3 b (cellB (upTo bs (q + 1)) ++ tail) ∧ h3.size = h1.size ∧ ∀ k, k ≠ b → h3[k]? = h1[k]? := fun a b c d => ⟨a, b, c, d⟩
 refine Ai rfl (Ai (fun hlt => ?_) (fun hge => ?_))
 ·have hlt : q < bs.length := by omega
  have cq := cell_q hb hlt
  refine Ai (by omega) (Ai (by omega) (Ei _ (Ai cq (Ai rfl (Ai (fun h97 => ?_) (fun hn => ?_))))))
  ·refine Ai (by omega) (Ai (by omega) (Ei _ (Ai cq (Ai rfl (Ai (fun h122 => ?_) (fun hn => ?_))))))
   ·refine Ai (by omega) (Ai (by omega) (Ei _ (Ai cq (Ai rfl (fun z hz => ?_)))))
    have hz : z = (upB bs[q]).toNat := by
     rw [upB_lo h97 h122, hz]; exact wrap8 (by omega) (by omega)
    refine Ai (by omega) (Ai (by omega) (Ei _ (Ai hb (Ai ?_ (Ai rfl (Ai (Go.Sx.ones1 rfl) fun h3 p => ?_))))))
    ·show 0 + q * 1 + 1 ≤ _
     rw [List.length_append, cellB_len, upTo_len]; omega
    ·refine Ai rfl (fun z2 hz2 => ?_)
     have hz2 := add_in hz2 (by omega) (by omega)
     subst hz2
     exact Ai rfl (Ei (q + 1) (Ai ⟨rfl, rfl, trivial⟩ (Ai (next hlt (put_q hlt hz p) (p.size.trans hsz) fun k hk => (p.old k hk).trans (hold k hk)) (by omega))))
   ·refine Ai rfl (fun z2 hz2 => ?_)
    have hz2 := add_in hz2 (by omega) (by omega)
    subst hz2
    exact Ai rfl (Ei (q + 1) (Ai ⟨rfl, rfl, trivial⟩ (Ai (next hlt (by rw [same_q hlt (upB_not fun hh => hn hh.2)]; exact hb) hsz hold) (by omega))))
  ·refine Ai rfl (fun z2 hz2 => ?_)
   have hz2 := add_in hz2 (by omega) (by omega)
   subst hz2
   exact Ai rfl (Ei (q + 1) (Ai ⟨rfl, rfl, trivial⟩ (Ai (next hlt (by rw [same_q hlt (upB_not fun hh => hn hh.1)]; exact hb) hsz hold) (by omega))))
 ·have hkl : q = bs.length := by omega
  subst hkl
  rw [upTo_all] at hb
  refine Ei (bs.map upB) (Ai (by simp) (Ai (cells_pre hb) (Ai rfl ?_)))
  refine ⟨by rw [hsz, g.size]; omega, fun k hk _ => ?_⟩
  have := g.id
  rw [hold k (by omega), g.old k hk]
def ofB (l : List UInt8) : ByteArray := ⟨⟨l⟩⟩
def KeysF (es : List MapEntry) (ks : List (List UInt8)) : Prop := es.map (·.key) = ks.map fun n => .string (ofB n)
theorem KeysF.fits {es : List MapEntry} {ks : List (List UInt8)} (hk : KeysF es ks) : ∀ e ∈ es, fits .str e.key = true := fun e he => by
 have : e.key ∈ es.map (·.key) := List.mem_map_of_mem he
 rw [hk] at this
 obtain ⟨n, _, e1⟩ := List.mem_map.1 this
 rw [← e1]; rfl
theorem KeysF.miss {k : List UInt8} : ∀ {es : List MapEntry} {ks : List (List UInt8)} {i : Nat}, KeysF es ks → k ∉ ks → mfind (.string (ofB k)) es i = none
 |[], ks, i, _, _ => rfl
 |e :: es, [], i, hk, _ => by simp [KeysF] at hk
 |e :: es, n :: ks, i, hk, hn => by
  simp only [KeysF, List.map_cons, List.cons.injEq] at hk
  unfold mfind
  rw [if_neg, KeysF.miss (es := es) (ks := ks) hk.2 (fun h => hn (by simp [h]))]
  intro hs
  have := sameBits_eq (k := .str) (by rfl) (by rw [hk.1]; rfl) hs
  rw [hk.1] at this
  simp [ofB] at this
  exact hn (by simp [this])
theorem none_nil {h : Heap} : CallsH Tryz.prog 42 [.pointer none] h (Ret fun r h' => r = .bool true ∧ h' = h) := by
 refine f42_calls (by simp) ?_
 exact Ai rfl rfl
theorem same_nil {h : Heap} {kb sb mb : Nat} (x : KS h kb sb mb) : CallsH Tryz.prog 37 [ptr kb, .pointer none] h (Ret fun r h' => r = .bool false ∧ h' = h) := by
 refine f37_calls (by simp) ?_
 refine call_ret (none_calls x) ?_
 rintro _ h1 ⟨rfl, e⟩
 have e := e.symm
 subst e
 refine call_ret none_nil ?_
 rintro _ h1 ⟨rfl, e⟩
 have e := e.symm
 subst e
 refine call_ret (none_calls x) ?_
 rintro _ h1 ⟨rfl, e⟩
 have e := e.symm
 subst e
 exact Ai rfl rfl
theorem sl_slc {α : Type} {enc : α → List Value} {size : Nat} {K : Value → Heap → Prop} {h : Heap} {a : Option Addr} {c : Nat} {l : List α} (hsz : ∀ x, (enc x).length = size) (hs : SL enc h (.slice a l.length c) l) {lo hi : Nat} (h0 : lo ≤ hi) (h1 : hi ≤ l.length)
  (hK : ∀ v, (∀ h', SL enc h' (.slice a l.length c) l → SL enc h' v ((l.drop lo).take (hi - lo))) → K v h) : slcR K h size a c (lo : Int) (hi : Int) := by
 have e1 : ((hi : Int) - (lo : Int)).toNat = hi - lo := by omega
 have e2 : ((c : Int) - (lo : Int)).toNat = c - lo := by omega
 have hlc := hs.len.2
 have hlen : ((l.drop lo).take (hi - lo)).length = hi - lo := by simp; omega
 obtain ⟨a', c', he, hc', h2⟩ := id hs
 cases he
 cases a with
 |none =>
  have hz : l.length = 0 := h2
  unfold slcR
  rw [e1, e2]
  refine hK _ fun h' _ => ⟨none, c - lo, by rw [hlen], by rw [hlen]; omega, ?_⟩
  show ((l.drop lo).take (hi - lo)).length = 0
  omega
 |some a =>
  obtain ⟨b, o, sp⟩ := a
  cases sp with
  |none =>
   intro o' ho1 ho2
   rw [e1, e2]
   refine hK _ fun h' hs' => (SL.cut hsz hs' h0 h1 (fun hlt => ?_) (fun hce => ?_))
   ·rw [ho1 (by omega)]; simp
   ·exact ho2 (by omega)
  |some q =>
   have hz : l.length = 0 := h2
   unfold slcR
   rw [e1, e2]
   refine Ai (by omega) (hK _ fun h' _ => ⟨_, c - lo, by rw [hlen], by rw [hlen]; omega, ?_⟩)
   show ((l.drop lo).take (hi - lo)).length = 0
   omega
def DoR (h : Heap) (res : Except ByteArray (Rep × List Eff)) (r : Value) (h' : Heap) : Prop := Chg [] h h' ∧ match res with
 |.ok (q, E) => ∃ v lv, r = .tuple ⟨[v, lv, .bool true]⟩ ∧ RepAt 0 h' v q ∧ SL encD h' lv E ∧ ∀ b ∈ vblk lv, h.size ≤ b
 |.error why => r = .tuple ⟨[repV 2 0 why, .slice none 0 0, .bool true]⟩
def allS : Space → List Eff → Option Space
 |S, [] => some S
 |S, e :: E => if (fateS S e).num = 0 then allS ((fateS S e).space S e.key) E else none
theorem all_append : ∀ {E F : List Eff} {S : Space}, allS S (E ++ F) = (allS S E).bind fun S' => allS S' F
 |[], F, S => rfl
 |e :: E, F, S => by
  simp only [List.cons_append, allS]
  split
  ·exact all_append
  ·rfl
theorem all_then {E F : List Eff} {S S1 S2 : Space} (h1 : allS S E = some S1) (h2 : allS S1 F = some S2) : allS S (E ++ F) = some S2 := by rw [all_append, h1]; exact h2
theorem all_one {e : Eff} {S : Space} (h : (fateS S e).num = 0) : allS S [e] = some ((fateS S e).space S e.key) := by simp only [allS]; rw [if_pos h]
theorem find_put {S : Space} {key k : ByteArray} {t : Thing} (hu : UpS S) : findS (putS S key t) k = if k = key then some t else findS S k := by
 split
 ·rename_i e
  subst e
  exact findS_some (up_putS hu) (mem_putS.2 (.inl rfl))
 ·rename_i hne
  cases hf : findS S k with
  |none =>
   refine findS_none fun p hp e => ?_
   rcases mem_putS.1 hp with rfl | ⟨h1, _⟩
   ·exact hne e.symm
   ·have : findS S p.1 = some p.2 := findS_some hu h1
    rw [e, hf] at this; cases this
  |some u => exact findS_some (up_putS hu) (mem_putS.2 (.inr ⟨findS_mem hf, hne⟩))
theorem find_drop {S : Space} {key k : ByteArray} (hu : UpS S) : findS (dropS S key) k = if k = key then none else findS S k := by
 split
 ·rename_i e
  subst e
  exact findS_none fun p hp e => (mem_dropS.1 hp).2 e
 ·rename_i hne
  cases hf : findS S k with
  |none =>
   refine findS_none fun p hp e => ?_
   have : findS S p.1 = some p.2 := findS_some hu (mem_dropS.1 hp).1
   rw [e, hf] at this; cases this
  |some u => exact findS_some (up_dropS hu) (mem_dropS.2 ⟨findS_mem hf, hne⟩)
theorem len_drop {S : Space} {key : ByteArray} : (dropS S key).length ≤ S.length := List.length_filter_le _ _
theorem len_parts : ∀ (S : Space) (key : ByteArray), (S.filter fun p => sless p.1 key).length + (S.filter fun p => sless key p.1).length ≤ S.length
 |[], _ => Nat.le_refl _
 |p :: S, key => by
  have ih := len_parts S key
  simp only [List.filter_cons]
  split
  ·rename_i h1
   split
   ·rename_i h2
    have := sless_trans h1 h2
    rw [sless_irrefl] at this; cases this
   ·simp; omega
  ·split <;> simp <;> omega
theorem len_put {S : Space} {key : ByteArray} {t : Thing} : (putS S key t).length ≤ S.length + 1 := by
 have := len_parts S key
 unfold putS
 simp; omega
section
variable {S : Space} {k s : ByteArray} {t : Thing} {n : Int}
theorem oneF_some {e : Eff} {r : Rule} {full : Bool} (hr : ruleR e.op = some r) (h1 : ¬ ((r.name = false ∧ e.name ≠ noText) ∨ (r.text = false ∧ e.text ≠ noText) ∨ (r.number = false ∧ e.num ≠ 0)))
  (h2 : ¬ (1048576 < e.key.size ∨ 1048576 < e.name.size ∨ 1048576 < e.text.size)) (h3 : ¬ (r.kind ≠ 0 ∧ t.kind ≠ r.kind)) : oneF (some t) e full = endF (doneT t e) true full := by
 unfold oneF
 rw [hr]
 simp only
 rw [if_neg h1, if_neg h2, if_neg h3]
theorem oneF_none {e : Eff} {r : Rule} {full : Bool} (hr : ruleR e.op = some r) (h1 : ¬ ((r.name = false ∧ e.name ≠ noText) ∨ (r.text = false ∧ e.text ≠ noText) ∨ (r.number = false ∧ e.num ≠ 0)))
  (h2 : ¬ (1048576 < e.key.size ∨ 1048576 < e.name.size ∨ 1048576 < e.text.size)) (h3 : ¬ r.makes = false) : oneF none e full = endF (doneT { zeroT with kind := r.kind } e) false full := by
 unfold oneF
 rw [hr]
 simp only
 rw [if_neg h1, if_neg h2, if_neg h3]
theorem no_size : noText.size = 0 := rfl
theorem fate_gone (hf : findS S k = some t) (hk : k.size ≤ 1048576) : fateS S (goneE k) = .drop := by
  show oneF (findS S k) (goneE k) _ = _
  rw [hf, oneF_some (r := ⟨false, false, false, 0, false, 185⟩) rfl (by rintro (⟨_, h⟩ | ⟨_, h⟩ | ⟨_, h⟩) <;> exact h rfl)
    (by rintro (h | h | h)
        · exact absurd h (by show ¬ 1048576 < k.size; omega)
        · exact absurd h (by show ¬ 1048576 < noText.size; rw [no_size]; decide)
        · exact absurd h (by show ¬ 1048576 < noText.size; rw [no_size]; decide)) (fun h => h.1 rfl)]
  rfl

end
theorem getS_find {S : Space} {k : ByteArray} {now : Int} {t : Thing} (h : getS S k now = some t) : findS S k = some t := by
 unfold getS at h
 split at h
 ·rename_i u hu
  split at h
  ·cases h
  ·rw [hu]; exact h
 ·cases h
def KeyS (S : Space) : Prop := ∀ p ∈ S, p.1.size ≤ 1048576
theorem KeyS.of {S : Space} (hk : KeyS S) {k : ByteArray} {t : Thing} (h : findS S k = some t) : k.size ≤ 1048576 := hk _ (findS_mem h)
structure Few (S : Space) : Prop where
 up : UpS S
 keys : KeyS S
 len : S.length ≤ 20
 ins : InS S
end Go.Proofs.YtjnijlnmbjjgpaaGreatDoor
namespace Go.Proofs.YtjnijlnmbjjgpaaGreatDoor
open Go Go.Sx C
section
variable {h0 h : Heap} {ab kb sb mb c : Nat} {now n : Int} {av lv : Value} {A : List ByteArray} {m : List KI} {S : Space} {key s a : ByteArray} {t : Thing} {go : Option Thing} {q : Rep} {E : List Eff}
def KindS (S : Space) : Prop := ∀ p ∈ S, 1 ≤ p.2.kind ∧ p.2.kind ≤ 5
def UntS (S : Space) : Prop := ∀ p ∈ S, In64 p.2.unt
end
end Go.Proofs.YtjnijlnmbjjgpaaGreatDoor
namespace Go.Proofs.YtjnijlnmbjjgpaaGreatDoor
open Go Go.Sx C
theorem tin8 {t : Thing} (hk : kOK t = true) (s : Small t) : TIn t := by
 have few : countT t ≤ 65536 := (small_short s).2.2.2
 unfold kOK at hk
 split at hk
 ·cases hk
 split at hk
 ·rename_i h1
  have hk := of_decide_eq_true hk
  have p : t.pairs = [] := List.length_eq_zero_iff.1 (by omega)
  have l : t.list = [] := List.length_eq_zero_iff.1 (by omega)
  have r : t.ranks = [] := List.length_eq_zero_iff.1 (by omega)
  exact ⟨⟨by rw [p]; exact .nil, fun _ => by rw [l]; exact .nil, by rw [r]; exact .nil, by rw [r]; exact List.nodup_nil, fun h => by omega, few⟩, fun h => by omega⟩
 split at hk
 ·rename_i h1
  simp only [Bool.and_eq_true, decide_eq_true_eq] at hk
  obtain ⟨h2, h3, h4, h5⟩ := hk
  have r : t.ranks = [] := List.length_eq_zero_iff.1 (by omega)
  exact ⟨⟨rising_lt (lt := fun x y : Pair => sless x.name y.name) (fun a b c => sless_trans) h5, fun h => by omega, by rw [r]; exact .nil, by rw [r]; exact List.nodup_nil, fun h => by omega, few⟩, fun h => by omega⟩
 split at hk
 ·rename_i h1
  simp only [Bool.and_eq_true, decide_eq_true_eq] at hk
  obtain ⟨h2, h3, h4⟩ := hk
  have p : t.pairs = [] := List.length_eq_zero_iff.1 (by omega)
  have r : t.ranks = [] := List.length_eq_zero_iff.1 (by omega)
  exact ⟨⟨by rw [p]; exact .nil, fun h => by omega, by rw [r]; exact .nil, by rw [r]; exact List.nodup_nil, fun _ => ⟨p, r⟩, few⟩, fun _ => List.length_pos_iff.1 h2⟩
 split at hk
 ·rename_i h1
  simp only [Bool.and_eq_true, decide_eq_true_eq] at hk
  obtain ⟨h2, h3, h4, h5⟩ := hk
  have p : t.pairs = [] := List.length_eq_zero_iff.1 (by omega)
  have r : t.ranks = [] := List.length_eq_zero_iff.1 (by omega)
  exact ⟨⟨by rw [p]; exact .nil, fun _ => rising_lt (lt := sless) (fun a b c => sless_trans) h5, by rw [r]; exact .nil, by rw [r]; exact List.nodup_nil, fun h => by omega, few⟩, fun h => by omega⟩
 split at hk
 ·rename_i h1
  simp only [Bool.and_eq_true, decide_eq_true_eq] at hk
  obtain ⟨h2, h3, h4, h5, h6⟩ := hk
  have p : t.pairs = [] := List.length_eq_zero_iff.1 (by omega)
  exact ⟨⟨by rw [p]; exact .nil, fun h => by omega, rising_lt ahead_tr h5, of_decide_eq_true h6, fun h => by omega, few⟩, fun h => by omega⟩
 ·cases hk
theorem named8 {t : Thing} (s : Small t) : Named t := ⟨fun x hx => by have := s.ps x hx; omega, fun x hx => by have := s.ls x hx; omega, fun x hx => by have := s.rs x hx; omega⟩
theorem rg8 {l k : List RX} (nv : NVast l) (hk : ofX [] l = some k) : RG k := by
 obtain ⟨h1, h2, h3⟩ := ofX_ok List.Pairwise.nil hk
 have hn := (ofX_nodup List.Pairwise.nil hk).2
 have hm : ∀ x ∈ k, x ∈ l := fun x hx => by simpa using (h2 x).1 hx
 have hl := nv.len
 have hlk : k.length = l.length := by simpa using h3
 exact ⟨h1, by omega, fun x hx => nv.fit x (hm x hx), fun x hx => tin8 (hn x (hm x hx)) (nv.small x (hm x hx)), fun x hx => named8 (nv.small x (hm x hx))⟩
theorem kind8 {t : Thing} (hk : kOK t = true) : 1 ≤ t.kind ∧ t.kind ≤ 5 := by
 unfold kOK at hk
 split at hk
 ·cases hk
 split at hk
 ·omega
 split at hk
 ·omega
 split at hk
 ·omega
 split at hk
 ·omega
 split at hk
 ·omega
 ·cases hk
structure S8 (S : Space) : Prop where
 few : Few S
 kind : KindS S
 text : TextS S
 unt : UntS S
 nm : ∀ p ∈ S, Named p.2
theorem s8_of {l k : List RX} (nv : NVast l) (hk : ofX [] l = some k) (hu : ∀ x ∈ l, In64 x.thing.unt) : S8 (k.map RX.pr) := by
 obtain ⟨h1, h2, h3⟩ := ofX_ok List.Pairwise.nil hk
 have hn := (ofX_nodup List.Pairwise.nil hk).2
 have hm : ∀ x ∈ k, x ∈ l := fun x hx => by simpa using (h2 x).1 hx
 have hl := nv.len
 have hlk : k.length = l.length := by simpa using h3
 have rg := rg8 nv hk
 have of : ∀ p ∈ k.map RX.pr, ∃ x ∈ l, RX.pr x = p := fun p hp => by
  obtain ⟨x, hx, rfl⟩ := List.mem_map.1 hp
  exact ⟨x, hm x hx, rfl⟩
 refine ⟨⟨pr_up h1, fun p hp => ?_, by simp; omega, rg.ins⟩, fun p hp => ?_, fun p hp => ?_, fun p hp => ?_, fun p hp => ?_⟩
 ·obtain ⟨x, hx, rfl⟩ := of p hp
  have := nv.keys x hx
  show x.key.size ≤ 1048576
  omega
 ·obtain ⟨x, hx, rfl⟩ := of p hp
  exact kind8 (hn x hx)
 ·obtain ⟨x, hx, rfl⟩ := of p hp
  have := (nv.small x hx).text
  show x.thing.text.size < 281474976710656
  omega
 ·obtain ⟨x, hx, rfl⟩ := of p hp
  exact hu x hx
 ·obtain ⟨x, hx, rfl⟩ := of p hp
  exact named8 (nv.small x hx)
section
variable {h0 h : Heap} {ab kb sb mb c : Nat} {now n : Int} {av lv : Value} {A : List ByteArray} {m : List KI} {S : Space}
end
structure CM (es : List MapEntry) (pre : List ByteArray) : Prop where
 fits : ∀ e ∈ es, fits .str e.key = true
 cnt : ∀ k, (mfind (.string k) es 0 = none ∧ k ∉ pre) ∨ (∃ i, mfind (.string k) es 0 = some (i, .int .i64 (cntB k pre)) ∧ k ∈ pre)
theorem CM.nil : CM [] [] := ⟨by simp, fun k => .inl ⟨rfl, by simp⟩⟩
theorem key_same {e : MapEntry} {k : ByteArray} (hf : fits .str e.key = true) : Instr.sameBits 10000 (.string k) e.key = true ↔ e.key = .string k := by
 constructor
 ·intro hs; exact (sameBits_eq (k := .str) (by rfl) hf hs).symm
 ·intro e; rw [e]; exact sameBits_refl (k := .str) rfl
theorem mfind_app {k k' : ByteArray} {v : Value} {c : Nat} : ∀ {es : List MapEntry} {i : Nat}, (∀ e ∈ es, fits .str e.key = true) → mfind (.string k) es i = none →
  mfind (.string k') (es ++ [{ key := .string k, val := v, born := c }]) i = (if k' = k then some (i + es.length, v) else mfind (.string k') es i)
 |[], i, _, _ => by
  simp only [List.nil_append, mfind]
  by_cases h : k' = k
  ·rw [if_pos h, if_pos (by rw [h]; exact sameBits_refl (k := .str) rfl)]; rfl
  ·rw [if_neg h, if_neg]
   intro hs
   have := sameBits_eq (k := .str) (by rfl) (by rfl) hs
   simp at this
   exact h this
 |e :: es, i, hf, hn => by
  have hfe := hf e (by simp)
  simp only [mfind] at hn
  split at hn
  ·cases hn
  ·rename_i hne
   have ih := mfind_app (k := k) (k' := k') (v := v) (c := c) (es := es) (i := i + 1) (fun e he => hf e (by simp [he])) hn
   simp only [List.cons_append, mfind]
   rw [ih]
   by_cases h : k' = k
   ·rw [if_pos h, if_pos h, h, if_neg hne]
    simp only [List.length_cons]
    congr 2; omega
   ·rw [if_neg h, if_neg h]
theorem mfind_mod {k k' : ByteArray} {v u : Value} : ∀ {es : List MapEntry} {i j : Nat}, (∀ e ∈ es, fits .str e.key = true) → mfind (.string k) es i = some (i + j, u) →
  (k' = k → mfind (.string k') (es.modify j fun e => { e with val := v }) i = some (i + j, v)) ∧ (k' ≠ k → mfind (.string k') (es.modify j fun e => { e with val := v }) i = mfind (.string k') es i)
 |[], i, j, _, h => by simp [mfind] at h
 |e :: es, i, j, hf, h => by
  have hfe := hf e (by simp)
  simp only [mfind] at h
  split at h
  ·rename_i hs
   simp at h
   have hj : j = 0 := by omega
   subst hj
   have hk := (key_same hfe).1 hs
   simp only [List.modify_zero_cons, mfind]
   refine ⟨fun e1 => ?_, fun hne => ?_⟩
   ·rw [e1, if_pos hs]; rfl
   ·have : ¬ (Instr.sameBits 10000 (.string k') e.key = true) := fun h2 => by
     have := (key_same hfe).1 h2
     rw [hk] at this
     simp at this
     exact hne this.symm
    rw [if_neg this, if_neg this]
  ·rename_i hs
   cases j with
   |zero =>
    exfalso
    have : ∀ {es : List MapEntry} {i p : Nat} {u : Value}, mfind (.string k) es i = some (p, u) → i ≤ p := by
     intro es
     induction es with
     |nil => intro i p u h; simp [mfind] at h
     |cons e es ih =>
      intro i p u h
      simp only [mfind] at h
      split at h
      ·simp at h; omega
      ·have := ih h; omega
    have := this h
    omega
   |succ j =>
    have h : mfind (.string k) es (i + 1) = some (i + 1 + j, u) := by rw [h]; congr 2; omega
    obtain ⟨m1, m2⟩ := mfind_mod (k := k) (k' := k') (v := v) (fun e he => hf e (by simp [he])) h
    simp only [List.modify_succ_cons, mfind]
    refine ⟨fun e1 => ?_, fun hne => ?_⟩
    ·rw [m1 e1, e1, if_neg hs]; congr 2; omega
    ·rw [m2 hne]
theorem CM.put0 {es : List MapEntry} {pre : List ByteArray} (x : CM es pre) {k : ByteArray} {c : Nat} {n : Int} (h1 : mfind (.string k) es 0 = none) (h2 : k ∉ pre) (hn : n = 1) :
  CM (es ++ [{ key := .string k, val := .int .i64 n, born := c }]) (pre ++ [k]) := by
 have h0 : cntB k pre = 0 := cntB_zero h2
 refine ⟨fun e he => ?_, fun k' => ?_⟩
 ·rcases List.mem_append.1 he with he | he
  ·exact x.fits e he
  ·rw [List.mem_singleton.1 he]; rfl
 ·rw [mfind_app x.fits h1, cntB_snoc]
  by_cases hk : k' = k
  ·rw [if_pos hk, if_pos hk]
   refine .inr ⟨0 + es.length, ?_, by simp [hk]⟩
   rw [hk, h0, hn]; rfl
  ·rw [if_neg hk, if_neg hk]
   rcases x.cnt k' with ⟨h3, h4⟩ | ⟨j, h3, h4⟩
   ·exact .inl ⟨h3, by simp [h4, hk]⟩
   ·exact .inr ⟨j, by simpa using h3, by simp [h4]⟩
theorem CM.put1 {es : List MapEntry} {pre : List ByteArray} (x : CM es pre) {k : ByteArray} {i : Nat} {n : Int} (h1 : mfind (.string k) es 0 = some (i, .int .i64 (cntB k pre))) (hn : n = cntB k pre + 1) :
  CM (es.modify i fun e => { e with val := .int .i64 n }) (pre ++ [k]) := by
 have h1' : mfind (.string k) es 0 = some (0 + i, .int .i64 (cntB k pre)) := by rw [h1]; simp
 refine ⟨fun e he => ?_, fun k' => ?_⟩
 ·obtain ⟨j, hj⟩ := List.getElem?_of_mem he
  rw [List.getElem?_modify] at hj
  obtain ⟨e0, he0, rfl⟩ := Option.map_eq_some_iff.1 hj
  have := x.fits e0 (List.mem_of_getElem? he0)
  split <;> exact this
 ·obtain ⟨m1, m2⟩ := mfind_mod (k' := k') (v := .int .i64 n) x.fits h1'
  rw [cntB_snoc]
  by_cases hk : k' = k
  ·rw [if_pos hk]
   refine .inr ⟨0 + i, ?_, by simp [hk]⟩
   rw [m1 hk, hk, hn]; rfl
  ·rw [if_neg hk]
   rw [m2 hk]
   rcases x.cnt k' with ⟨h3, h4⟩ | ⟨j, h3, h4⟩
   ·exact .inl ⟨h3, by simp [h4, hk]⟩
   ·exact .inr ⟨j, by simpa using h3, by simp [h4]⟩
theorem CM.hit {es : List MapEntry} {pre : List ByteArray} {k : ByteArray} (x : CM es (pre ++ [k])) : ∃ i, mfind (.string k) es 0 = some (i, .int .i64 (cntB k pre + 1 : Nat)) := by
 rcases x.cnt k with ⟨_, h2⟩ | ⟨i, h1, _⟩
 ·exact absurd (by simp) h2
 ·rw [cntB_snoc, if_pos rfl] at h1
  exact ⟨i, h1⟩
end Go.Proofs.YtjnijlnmbjjgpaaGreatDoor
namespace Go.Proofs.YtjnijlnmbjjgpaaGreatDoor
open Go Go.Sx C
section
variable {h0 h h' : Heap} {ab kb sb mb c b2 : Nat} {now n : Int} {av lv v : Value} {A : List ByteArray} {m : List KI} {S : Space} {M : List En} {E : List Eff} {res : Except ByteArray (Rep × List Eff)} {ls : List (Int × Int × ByteArray)}
theorem _root_.Go.Sx.St.empty {T : List Nat} {α : Type} {enc : α → List Value} {size : Nat} (w : St T h0 h M) : St T h0 h (.o enc size (.slice none 0 0) ([] : List α) :: M) :=
 w.add (e := .o enc size (.slice none 0 0) ([] : List α)) (Chg.refl _) OL.nil (fun b hb => (nomatch (show b ∈ ([] : List Nat) from hb)))
end
end Go.Proofs.YtjnijlnmbjjgpaaGreatDoor
namespace Go.Proofs.YtjnijlnmbjjgpaaGreatDoor
open Go Go.Sx C
section
variable {h0 h : Heap} {ab kb sb mb c : Nat} {now n : Int} {av lv : Value} {A : List ByteArray} {m : List KI} {S : Space}
end
end Go.Proofs.YtjnijlnmbjjgpaaGreatDoor
namespace Go.Proofs.YtjnijlnmbjjgpaaGreatDoor
open Go Go.Sx C
section
variable {h0 h h' : Heap} {ab kb sb mb c l D b2 : Nat} {now n : Int} {av lv : Value} {A : List ByteArray} {m : List KI} {S : Space} {T : List Nat} {M : List En} {r : Loop} {st st' : LoopState} {key s W N : ByteArray} {res : Res}
def lpE (l D : Nat) (r : Loop) (st : LoopState) : En :=
 .x [l, D] (fun h => LoopB h l r st none ∧ h[D]? = some (.deferred (some []))) (fun S h h' hc hn ⟨h1, h2⟩ => ⟨loopB_chg h1 hc (hn _ (by simp)), get_chg h2 hc (hn _ (by simp))⟩)
  (fun h ⟨h1, h2⟩ b hb => by
   rcases List.mem_cons.1 hb with rfl | hb
   ·exact get_lt h1.at_
   ·rw [List.mem_singleton.1 hb]; exact get_lt h2)
theorem _root_.Go.Sx.St.turn (w : St T h0 h M) (i : Nat) (hi : M[i]? = some (lpE l D r st)) (hne : D ≠ l) (t : Turn h h' l r st' none) : St T h0 h' (M.set i (lpE l D r st')) := by
 refine w.set i hi t.chg (fun b hb => .inl (by simp at hb; simp [lpE, En.fp, hb])) ⟨t.rec_, ?_⟩ (fun b hb => .inl hb)
 rw [t.old D hne]; exact (w.get i hi).2
def ltE (p : Nat) : En := .x [p] (fun h => p < h.size) (fun _ _ _ hc _ h1 => Nat.lt_of_lt_of_le h1 hc.size) (fun h h1 b hb => by rw [List.mem_singleton.1 hb]; exact h1)
def fixE (p : Nat) (o : Option Obj) : En := .x [p] (fun h => p < h.size ∧ h[p]? = o) (fun _ _ _ hc hn ⟨h1, h2⟩ => ⟨Nat.lt_of_lt_of_le h1 hc.size, by rw [hc.old p h1 (hn _ (by simp))]; exact h2⟩) (fun h h1 b hb => by rw [List.mem_singleton.1 hb]; exact h1.1)
end
end Go.Proofs.YtjnijlnmbjjgpaaGreatDoor
namespace Go.Proofs.YtjnijlnmbjjgpaaGreatDoor
open Go Go.Sx C
def Fine (S : Space) (res : Res) : Prop := ∀ q E, res = .ok (q, E) → q.k ≠ 2 ∧ E.length ≤ 100000 ∧ ∃ S', allS S E = some S'
section
variable {S : Space} {now n : Int} {A : List ByteArray} {res : Res} {q r : Rep} {E : List Eff} {k s w : ByteArray} {go : Option Thing}
theorem Fine.bad : Fine S (.error w) := fun q E h => by cases h
theorem Fine.of (hq : r.k ≠ 2) (hE : E.length ≤ 100000) (h : ∃ S', allS S E = some S') : Fine S (.ok (r, E)) := fun q E' e => by
 cases e
 exact ⟨hq, hE, h⟩
theorem Fine.none_ (hq : r.k ≠ 2) : Fine S (.ok (r, [])) := Fine.of hq (by simp) ⟨S, rfl⟩
theorem Fine.ite {c : Prop} [Decidable c] {a b : Res} (ha : c → Fine S a) (hb : ¬ c → Fine S b) : Fine S (if c then a else b) := by
 split
 ·exact ha (by assumption)
 ·exact hb (by assumption)
theorem Fine.arg1 {f : ByteArray → Res} (h : ∀ x ∈ A, Fine S (f x)) : Fine S (arg1 f A) := by
 unfold Proofs.YtjnijlnmbjjgpaaGreatDoor.arg1
 split
 ·exact h _ (by simp)
 ·exact Fine.bad
theorem Fine.arg2 {f : ByteArray → ByteArray → Res} (h : ∀ x y, Fine S (f x y)) : Fine S (arg2 f A) := by
 unfold Proofs.YtjnijlnmbjjgpaaGreatDoor.arg2
 split
 ·exact h _ _
 ·exact Fine.bad
end
end Go.Proofs.YtjnijlnmbjjgpaaGreatDoor
namespace Go.Proofs.YtjnijlnmbjjgpaaGreatDoor
open Go Go.Sx C
abbrev aT (xb : Nat) (t : Thing) (pv lw rv : Value) (key : ByteArray) (kv : Value) (now : Int) (av lv : Value) (L : List Eff) (why : ByteArray) : En := rxE9 xb (cellsT t pv lw rv ++ [.string key]) kv now av lv L why
section
variable {h0 h h1 h' : Heap} {xb i : Nat} {now n kd : Int} {kv av lv pv lw rv pv' lw' rv' : Value} {k : List RX} {A : List ByteArray} {L : List Eff} {why key key' s : ByteArray} {t t' : Thing} {M : List En} {T : List Nat} {e e' : En}
theorem _root_.Go.Sx.St.stT9 {K : Heap → Prop} (w : St T h1 h M) (i : Nat) (hi : M[i]? = some (aT xb t pv lw rv key kv now av lv L why)) (hone : ∀ u ∈ cellsT t' pv' lw' rv', u.oneCell' = true) (k : ∀ h', St T h1 h' (M.set i (aT xb t' pv' lw' rv' key kv now av lv L why)) → K h') :
  ∃ l, Blk h xb l ∧ 5 + 7 ≤ l.length ∧ (cellsT t' pv' lw' rv').length = 7 ∧ (∀ u ∈ cellsT t' pv' lw' rv', u.oneCell' = true) ∧ ∀ h', Put h h' xb (splice l 5 (cellsT t' pv' lw' rv')) → K h' := by
 obtain ⟨hB, hO, hn⟩ := w.get i hi
 refine ⟨_, hB, by simp [cellsT], rfl, hone, fun h' p => k h' ?_⟩
 have hO2 := hO.chg p.chg (fun b hb => by simp; rintro rfl; exact hn hb)
 exact w.set i hi p.chg (fun b hb => .inl (by simp at hb; simp [rxE9, En.fp, hb])) ⟨by have e := p.blk; simpa [splice, cellsT] using e, hO2, hn⟩ (fun b hb => .inl hb)
theorem _root_.Go.Sx.St.stK9 {K : Heap → Prop} (w : St T h1 h M) (i : Nat) (hi : M[i]? = some (aT xb t pv lw rv key kv now av lv L why)) (k : ∀ h', St T h1 h' (M.set i (aT xb t pv lw rv key' kv now av lv L why)) → K h') :
  ∃ l, Blk h xb l ∧ 12 + 1 ≤ l.length ∧ [Value.string key'].length = 1 ∧ (∀ u ∈ [Value.string key'], u.oneCell' = true) ∧ ∀ h', Put h h' xb (splice l 12 [.string key']) → K h' := by
 obtain ⟨hB, hO, hn⟩ := w.get i hi
 refine ⟨_, hB, by simp [cellsT], rfl, ones1 rfl, fun h' p => k h' ?_⟩
 have hO2 := hO.chg p.chg (fun b hb => by simp; rintro rfl; exact hn hb)
 exact w.set i hi p.chg (fun b hb => .inl (by simp at hb; simp [rxE9, En.fp, hb])) ⟨by have e := p.blk; simpa [splice, cellsT] using e, hO2, hn⟩ (fun b hb => .inl hb)
theorem rof9_calls (c : RC9 h0 kv k av A) (x : As h0 h (aT xb t pv lw rv key kv now av lv L why)) (hk : key.size < 4611686018427387904) : CallsH Tryz.prog 59 [ptr xb, .int .i64 kd] h
  (Ret fun r h' => ∃ pv' lw' rv', r = .bool (okK kd (getS (k.map RX.pr) key now)) ∧ (∀ h2, Chg [] h0 h2 → TH h2 (cellsT ((getS (k.map RX.pr) key now).getD zeroT) pv' lw' rv') ((getS (k.map RX.pr) key now).getD zeroT)) ∧
   RxO9 h0 h (aT xb t pv lw rv key kv now av lv L why) h' (aT xb ((getS (k.map RX.pr) key now).getD zeroT) pv' lw' rv' key kv now av lv L (if okK kd (getS (k.map RX.pr) key now) = true then why else wType))) := by
 refine g59_calls (by simp) ?_
 have w := x.st
 refine w.ldr9 0 rfl rfl ?_
 refine Ai ?_ ?_
 ·refine call_ret (rthing9_calls c (x.out w 0 rfl).1 hk) ?_
  rintro _ h2 ⟨⟨pv', lw', rv', rfl, hone, hth⟩, _, o2⟩
  have w := w.own 0 rfl o2
  intro b5 h3 g3
  have w := w.new g3
  refine w.st3 0 rfl rfl rfl hone fun h4 w => ?_
  refine w.ldw 0 rfl rfl ?_
  refine w.stT9 1 rfl hone fun h5 w => ?_
  exact ⟨pv', lw', rv', rfl, hth, x.out w 1 rfl⟩
 ·intro b5 h3 g3
  have w := w.new g3
  refine call_ret (rthing9_calls c (x.out w 1 rfl).1 hk) ?_
  rintro _ h2 ⟨⟨pv', lw', rv', rfl, hone, hth⟩, _, o2⟩
  have w := w.own 1 rfl o2
  refine w.st3 0 rfl rfl rfl hone fun h4 w => ?_
  refine w.ldw 0 rfl rfl ?_
  refine w.stT9 1 rfl hone fun h5 w => ?_
  exact ⟨pv', lw', rv', rfl, hth, x.out w 1 rfl⟩
def preL (S : Space) (key : ByteArray) (now : Int) (L : List Eff) : List Eff := if L.length = 0 then L ++ dropsS S key now else L
theorem rput9_calls {items op num : Int} {k0 nm tx : ByteArray} (c : RC9 h0 kv k av A) (x : As h0 h (aT xb t pv lw rv key kv now av lv L why)) (hL : L.length ≤ 1000) (hi : items ≤ 65536) (hk : key.size ≤ 1048576) (hn : nm.size ≤ 1048576) (ht : tx.size ≤ 1048576) :
  CallsH Tryz.prog 127 [ptr xb, .agg ⟨[.int .i64 op, .string k0, .string nm, .string tx, .int .i64 num]⟩, .int .i64 items] h
  (Ret fun r h' => r = .bool true ∧ ∃ lv', RxO9 h0 h (aT xb t pv lw rv key kv now av lv L why) h' (aT xb t pv lw rv key kv now av lv' (preL (k.map RX.pr) key now L ++ [⟨op, key, nm, tx, num⟩]) why)) := by
 obtain ⟨a, cc, rfl⟩ := x.st.rform9 0 rfl
 refine f127_calls (by simp) ?_
 intro b4 h1 g1
 have w := x.st.new g1
 refine Ai rfl (Ai (fun h1 => absurd h1 (by omega)) (fun _ => ?_))
 refine w.ldr9 1 rfl rfl ?_
 refine Ai rfl (Ai (fun h1 => absurd h1 (by omega)) (fun _ => ?_))
 refine w.ld1 0 rfl rfl ?_
 refine Ai rfl (Ai (fun h1 => absurd h1 (by omega)) (fun _ => ?_))
 refine w.ld1 0 rfl rfl ?_
 refine Ai rfl (Ai (fun h1 => absurd h1 (by omega)) (fun _ => ?_))
 have fin : ∀ {h2 : Heap} {a2 : Option Addr} {c2 : Nat} {L2 : List Eff}, preL (k.map RX.pr) key now L = L2 → L2.length ≤ 2000 → St (xb :: vblk (.slice a L.length cc)) h h2 [.b b4 [.int .i64 op, .string k0, .string nm, .string tx, .int .i64 num], aT xb t pv lw rv key kv now av (.slice a2 L2.length c2) L2 why] →
   swp Tryz.prog (.seq (.ops f127r6) (.seq (.ops f127r7) (.seq (.ops f127r8) .ret))) (retQ [.t 6] (Ret fun r h' => r = .bool true ∧ ∃ lv', RxO9 h0 h (aT xb t pv lw rv key kv now av (.slice a L.length cc) L why) h' (aT xb t pv lw rv key kv now av lv' (preL (k.map RX.pr) key now L ++ [⟨op, key, nm, tx, num⟩]) why)))
    (mk [(0, ptr xb), (4, ptr b4)]) [] h2 := by
  intro h2 a2 c2 L2 he hl2 w
  rw [he]
  refine w.ldr9 1 rfl rfl ?_
  refine w.st1 0 rfl rfl rfl rfl fun h3 w => ?_
  refine w.ldr9 1 rfl rfl ?_
  refine w.ldw 0 rfl rfl ?_
  intro b7 h4 g4
  have w := w.new g4
  refine w.rapp9 2 rfl rfl (one_sl (e := ⟨op, key, nm, tx, num⟩) (w.get 0 rfl)) (by simp only [List.length_singleton]; omega) fun a5 n5 h5 hst => ?_
  refine hst fun h6 w => ?_
  exact ⟨rfl, _, x.out w 2 rfl⟩
 refine w.ldr9 1 rfl rfl ?_
 refine Ai rfl (Ai (fun hz => ?_) (fun hz => ?_))
 ·have hz : L.length = 0 := by omega
  refine w.ldr9 1 rfl rfl ?_
  refine call_ret (rgone9_calls c (x.out w 1 rfl).1 (by omega) (by omega)) ?_
  rintro _ h3 ⟨lv2, _, o3⟩
  have w := w.own 1 rfl o3
  obtain ⟨a3, c3, rfl⟩ := w.rform9 1 rfl
  have dl := drops_len (k.map RX.pr) key now
  exact cut_at [(0, ptr xb), (4, ptr b4)] ⟨rfl, rfl, trivial⟩ (fin (if_pos hz) (by simp only [List.length_append]; omega) w)
 ·exact cut_at [(0, ptr xb), (4, ptr b4)] ⟨rfl, rfl, trivial⟩ (fin (if_neg (by omega)) (by omega) w)
theorem rtake9_calls {op num : Int} {k0 nm tx : ByteArray} (x : As h0 h (aT xb t pv lw rv key kv now av lv L why)) (hL : L.length ≤ 1000) :
  CallsH Tryz.prog 134 [ptr xb, .agg ⟨[.int .i64 op, .string k0, .string nm, .string tx, .int .i64 num]⟩] h
  (Ret fun _ h' => ∃ lv', RxO9 h0 h (aT xb t pv lw rv key kv now av lv L why) h' (aT xb t pv lw rv key kv now av lv' (L ++ [⟨op, key, nm, tx, num⟩]) why)) := by
 obtain ⟨a, cc, rfl⟩ := x.st.rform9 0 rfl
 refine f134_calls (by simp) ?_
 intro b4 h1 g1
 have w := x.st.new g1
 refine w.ldr9 1 rfl rfl ?_
 refine w.st1 0 rfl rfl rfl rfl fun h3 w => ?_
 refine w.ldr9 1 rfl rfl ?_
 refine w.ldw 0 rfl rfl ?_
 intro b7 h4 g4
 have w := w.new g4
 refine w.rapp9 2 rfl rfl (one_sl (e := ⟨op, key, nm, tx, num⟩) (w.get 0 rfl)) (by simp only [List.length_singleton]; omega) fun a5 n5 h5 hst => ?_
 refine hst fun h6 w => ?_
 exact ⟨_, x.out w 2 rfl⟩
end
end Go.Proofs.YtjnijlnmbjjgpaaGreatDoor
namespace Go.Proofs.YtjnijlnmbjjgpaaGreatDoor
open Go Go.Sx C
def cellsC (t : Thing) (pv lw rv : Value) (is : Bool) (kb : Nat) (now : Int) (key : ByteArray) (av lv : Value) : List Value :=
 [.int .i64 t.kind, .string t.text, pv, lw, rv, .bool t.hasU, .int .i64 t.unt, .bool is, ptr kb, .int .i64 now, .string key, av, lv]
def cE (ab kb : Nat) (now : Int) (av : Value) (key : ByteArray) (t : Thing) (is : Bool) (pv lw rv lv : Value) (L : List Eff) : En :=
 .x (ab :: (vblk lv ++ bl3 pv lw rv)) (fun h => Blk h ab (cellsC t pv lw rv is kb now key av lv) ∧ OL encD 5 h lv L ∧ TH h (cellsT t pv lw rv) t ∧ (∀ b ∈ bl3 pv lw rv, b < h.size) ∧ ab ∉ vblk lv ∧ ab ∉ bl3 pv lw rv ∧ ∀ b ∈ vblk lv, b ∉ bl3 pv lw rv)
  (fun _ _ _ hc hn ⟨h1, h2, h3, h4, h5, h6, h7⟩ => ⟨h1.chg hc (hn _ (by simp)), h2.chg hc (fun b hb => hn _ (by simp [hb])), th_off h3 hc (fun b hb => hn _ (by simp [hb])), fun b hb => Nat.lt_of_lt_of_le (h4 b hb) hc.size, h5, h6, h7⟩)
  (fun _ ⟨h1, h2, _, h4, _⟩ b hb => by
   rcases List.mem_cons.1 hb with rfl | hb
   ·exact h1.lt
   ·rcases List.mem_append.1 hb with hb | hb
    ·exact OL.lt h2 b hb
    ·exact h4 b hb)
section
variable {h h1 h' : Heap} {ab kb i : Nat} {now : Int} {av lv pv lw rv : Value} {key key2 : ByteArray} {t : Thing} {is : Bool} {L F : List Eff} {M : List En} {T : List Nat}
theorem _root_.Go.Sx.St.ldc {o : Nat} {v : Value} {K : Value → Prop} (w : St T h1 h M) (i : Nat) (hi : M[i]? = some (cE ab kb now av key t is pv lw rv lv L)) (hv : (cellsC t pv lw rv is kb now key av lv)[o]? = some v) (k : K v) : ∃ v, cell h ab o = some v ∧ K v := ⟨v, cell_blk (w.get i hi).1 hv, k⟩
theorem _root_.Go.Sx.St.cform (w : St T h1 h M) (i : Nat) (hi : M[i]? = some (cE ab kb now av key t is pv lw rv lv L)) : ∃ a c, lv = .slice a L.length c := by
 obtain ⟨a, c, e, _⟩ := (show OL encD 5 h lv L from (w.get i hi).2.1).sl.form
 exact ⟨a, c, e⟩
theorem _root_.Go.Sx.St.ckey {K : Heap → Prop} (w : St T h1 h M) (i : Nat) (hi : M[i]? = some (cE ab kb now av key t is pv lw rv lv L)) (k : ∀ h', St T h1 h' (M.set i (cE ab kb now av key2 t is pv lw rv lv L)) → K h') :
  ∃ l, Blk h ab l ∧ 10 + 1 ≤ l.length ∧ [Value.string key2].length = 1 ∧ (∀ u ∈ [Value.string key2], u.oneCell' = true) ∧ ∀ h', Put h h' ab (splice l 10 [.string key2]) → K h' := by
 obtain ⟨hB, hO, hT, hb, n1, n2, n3⟩ := w.get i hi
 refine ⟨_, hB, by simp [cellsC], rfl, ones1 rfl, fun h' p => k h' ?_⟩
 refine w.set i hi p.chg (fun b hb => .inl (by simp at hb; simp [cE, En.fp, hb])) ⟨p.blk, hO.chg p.chg (fun b hb => by simp; rintro rfl; exact n1 hb), th_off hT p.chg (fun b hb => by simp; rintro rfl; exact n2 hb), fun b h9 => Nat.lt_of_lt_of_le (hb b h9) p.chg.size, n1, n2, n3⟩ (fun b hb => .inl hb)
theorem _root_.Go.Sx.St.capp {a a' : Option Addr} {n c m c2 : Nat} {z : List Value} {K : Value → Heap → Prop} (w : St T h1 h M) (i : Nat) (hi : M[i]? = some (cE ab kb now av key t is pv lw rv (.slice a n c) L)) (hz : z.length = 5) (hsrc : SL encD h (.slice a' m c2) F) (hb : ((L.length + F.length) * 2 + 768) * 64 ≤ 281474976710656)
  (k : ∀ a3 c3 h', (∀ {K' : Heap → Prop}, (∀ h'', St T h1 h'' (M.set i (cE ab kb now av key t is pv lw rv (.slice a3 (L ++ F).length c3) (L ++ F))) → K' h'') →
   ∃ l, Blk h' ab l ∧ 12 + 1 ≤ l.length ∧ [Value.slice a3 (L ++ F).length c3].length = 1 ∧ (∀ u ∈ [Value.slice a3 (L ++ F).length c3], u.oneCell' = true) ∧ ∀ h'', Put h' h'' ab (splice l 12 [.slice a3 (L ++ F).length c3]) → K' h'') → K (.slice a3 (L ++ F).length c3) h') : appP h K 5 64 z a n c a' m := by
 obtain ⟨hB, hO, hT, hlt3, n1, n2, n3⟩ := w.get i hi
 have hlt := hB.lt
 refine app_own encD_len encD_one hz hO hsrc hb fun v' h' ho hc hbv => ?_
 have hxn : ab ∉ vblk v' := fun hm => by
  rcases hbv ab hm with h3 | h3
  ·exact n1 h3
  ·omega
 have hyn : ∀ b ∈ vblk v', b ∉ bl3 pv lw rv := fun b hb hm => by
  rcases hbv b hb with h3 | h3
  ·exact n3 b h3 hm
  ·have := hlt3 b hm; omega
 have hB1 := hB.chg hc n1
 have hT1 := th_off hT hc (fun b hb hm => n3 b hm hb)
 obtain ⟨a3, c3, rfl, _⟩ := ho.sl.form
 refine k a3 c3 h' fun {K'} hK => ?_
 refine ⟨_, hB1, by simp [cellsC], rfl, ones1 rfl, fun h'' p => hK h'' ?_⟩
 have ct : Chg (ab :: ablk a) h h'' := (hc.mono (fun b hb => List.mem_cons_of_mem _ hb)).trans p.chg (fun _ hk => hk) (fun b hb _ => by simp at hb; simp [hb])
 refine w.set i hi ct (fun b hb => .inl ?_) ⟨p.blk, ho.chg p.chg (fun b hb => by simp; rintro rfl; exact hxn hb), th_off hT1 p.chg (fun b hb => by simp; rintro rfl; exact n2 hb), fun b h9 => Nat.lt_of_lt_of_le (hlt3 b h9) ct.size, hxn, n2, hyn⟩ (fun b hb => ?_)
 ·rcases List.mem_cons.1 hb with rfl | hb
  ·exact List.mem_cons_self ..
  ·exact List.mem_cons_of_mem _ (List.mem_append_left _ hb)
 ·rcases List.mem_cons.1 hb with rfl | hb
  ·exact .inl (List.mem_cons_self ..)
  ·rcases List.mem_append.1 hb with hb | hb
   ·rcases hbv b hb with h3 | h3
    ·exact .inl (List.mem_cons_of_mem _ (List.mem_append_left _ h3))
    ·exact .inr h3
   ·exact .inl (List.mem_cons_of_mem _ (List.mem_append_right _ hb))
theorem _root_.Go.Sx.St.cthing {t2 : Thing} {p2 w2 r2 : Value} {K : Heap → Prop} {j : Nat} (w : St T h1 h M) (i : Nat) (hi : M[i]? = some (cE ab kb now av key t is pv lw rv lv L)) (hj : M[j]? = some (thE t2 p2 w2 r2)) (hij : j ≠ i)
  (k : ∀ h', St T h1 h' ((M.set j En.nil).set i (cE ab kb now av key t2 is p2 w2 r2 lv L)) → K h') :
  ∃ l, Blk h ab l ∧ 0 + 7 ≤ l.length ∧ (cellsT t2 p2 w2 r2).length = 7 ∧ (∀ u ∈ cellsT t2 p2 w2 r2, u.oneCell' = true) ∧ ∀ h', Put h h' ab (splice l 0 (cellsT t2 p2 w2 r2)) → K h' := by
 obtain ⟨hB, hO, hT, hlt3, n1, n2, n3⟩ := w.get i hi
 obtain ⟨hT2, hlt2⟩ := w.get j hj
 refine ⟨_, hB, by simp [cellsC], rfl, thing_one hT2, fun h' p => k h' ?_⟩
 have m1 : ∀ b ∈ bl3 p2 w2 r2, b ∉ (cE ab kb now av key t is pv lw rv lv L).fp := fun b hb => w.apart j i _ _ hj hi hij b hb
 have n2' : ab ∉ bl3 p2 w2 r2 := fun hm => m1 ab hm (by simp [cE, En.fp])
 have n3' : ∀ b ∈ vblk lv, b ∉ bl3 p2 w2 r2 := fun b hb hm => m1 b hm (by simp [cE, En.fp, hb])
 have hz := w.size
 have hil : i < M.length := (List.getElem?_eq_some_iff.1 hi).1
 have hjl : j < M.length := (List.getElem?_eq_some_iff.1 hj).1
 have hfi := (w.ents i _ hi).2
 have hfj := (w.ents j _ hj).2
 have he : (cE ab kb now av key t2 is p2 w2 r2 lv L).at h' := ⟨p.blk, hO.chg p.chg (fun b hb => by simp; rintro rfl; exact n1 hb), th_off hT2 p.chg (fun b hb => by simp; rintro rfl; exact n2' hb), fun b h9 => Nat.lt_of_lt_of_le (hlt2 b h9) p.chg.size, n1, n2', n3'⟩
 have hsub : ∀ b ∈ (cE ab kb now av key t2 is p2 w2 r2 lv L).fp, b ∈ (cE ab kb now av key t is pv lw rv lv L).fp ∨ b ∈ (thE t2 p2 w2 r2).fp := fun b hb => by
  rcases List.mem_cons.1 hb with rfl | hb
  ·exact .inl (List.mem_cons_self ..)
  ·rcases List.mem_append.1 hb with hb | hb
   ·exact .inl (List.mem_cons_of_mem _ (List.mem_append_left _ hb))
   ·exact .inr hb
 have hab : ab ∈ (cE ab kb now av key t is pv lw rv lv L).fp := List.mem_cons_self ..
 have get3 : ∀ {x : Nat} {e : En}, ((M.set j En.nil).set i (cE ab kb now av key t2 is p2 w2 r2 lv L))[x]? = some e → (x = i ∧ e = cE ab kb now av key t2 is p2 w2 r2 lv L) ∨ (x = j ∧ x ≠ i ∧ e = En.nil) ∨ (x ≠ i ∧ x ≠ j ∧ M[x]? = some e) := fun {x e} hx => by
  by_cases h1 : i = x
  ·subst h1
   rw [List.getElem?_set_self (by rw [List.length_set]; exact hil)] at hx
   cases hx
   exact .inl ⟨rfl, rfl⟩
  ·rw [List.getElem?_set_ne h1] at hx
   by_cases h2 : j = x
   ·subst h2
    rw [List.getElem?_set_self hjl] at hx
    cases hx
    exact .inr (.inl ⟨rfl, fun e => h1 e.symm, rfl⟩)
   ·rw [List.getElem?_set_ne h2] at hx
    exact .inr (.inr ⟨fun e => h1 e.symm, fun e => h2 e.symm, hx⟩)
 refine ⟨w.chg.trans p.chg (fun _ hk => hk) (fun b hb hlt => ?_), fun x e hx => ?_, fun x y e f hx hy hn b h1 h2 => ?_⟩
 ·simp at hb
  subst hb
  rcases hfi b hab with h9 | h9
  ·exact h9
  ·omega
 ·rcases get3 hx with ⟨rfl, rfl⟩ | ⟨rfl, _, rfl⟩ | ⟨h1, h2, hm⟩
  ·refine ⟨he, fun b hb => ?_⟩
   rcases hsub b hb with h9 | h9
   ·exact hfi b h9
   ·exact hfj b h9
  ·exact ⟨trivial, fun b hb => (nomatch (show b ∈ ([] : List Nat) from hb))⟩
  ·refine ⟨En.chg (w.get x hm) p.chg (fun b hb => ?_), (w.ents x e hm).2⟩
   simp
   rintro rfl
   exact w.apart i x _ e hi hm (fun e => h1 e.symm) b hab hb
 ·rcases get3 hx with ⟨rfl, rfl⟩ | ⟨rfl, _, rfl⟩ | ⟨x1, x2, hm⟩
  ·rcases get3 hy with ⟨rfl, rfl⟩ | ⟨rfl, _, rfl⟩ | ⟨y1, y2, hm2⟩
   ·exact hn rfl
   ·exact (nomatch (show b ∈ ([] : List Nat) from h2))
   ·rcases hsub b h1 with h9 | h9
    ·exact w.apart x y _ f hi hm2 hn b h9 h2
    ·exact w.apart j y _ f hj hm2 (fun e => y2 e.symm) b h9 h2
  ·exact (nomatch (show b ∈ ([] : List Nat) from h1))
  ·rcases get3 hy with ⟨rfl, rfl⟩ | ⟨rfl, _, rfl⟩ | ⟨y1, y2, hm2⟩
   ·rcases hsub b h2 with h9 | h9
    ·exact w.apart x y e _ hm hi hn b h1 h9
    ·exact w.apart x j e _ hm hj x2 b h1 h9
   ·exact (nomatch (show b ∈ ([] : List Nat) from h2))
   ·exact w.apart x y e f hm hm2 hn b h1 h2
end
end Go.Proofs.YtjnijlnmbjjgpaaGreatDoor
namespace Go.Proofs.YtjnijlnmbjjgpaaGreatDoor
open Go Go.Sx C
def stop9 (why : ByteArray) : List PanicEntry := [{ v := .iface 92 (.agg #[.string why]), recovered := false }]
def Out9 (R : Value → Heap → Prop) (E : ByteArray → Heap → Prop) : Ending → Heap → Prop
 |.returned v, h => R v h
 |.panicked ch, h => ∃ why, ch = stop9 why ∧ E why h
 |.outgrown, _ => False
theorem call_out9 {P : Program} {f : Nat} {vs : List Value} {h : Heap} {Q : Value → Heap → Prop} {E : ByteArray → Heap → Prop} {K : Value → Heap → Prop} {Qp : List PanicEntry → Heap → Prop} (hc : CallsH P f vs h (Out9 Q E))
  (hk : ∀ v h', Q v h' → K v h') (he : ∀ why h', E why h' → Qp (stop9 why) h') : CallsH P f vs h (after K Qp) :=
 hc.mono fun e h' hr => by
  cases e with
  |returned v => exact hk _ _ hr
  |panicked ch => obtain ⟨why, rfl, hw⟩ := hr; exact he _ _ hw
  |outgrown => exact hr.elim
theorem must9_calls {h : Heap} {b : Bool} {s : ByteArray} : CallsH Tryz.prog 150 [.bool b, .string s] h (Out9 (fun _ h' => b = true ∧ h' = h) (fun why h' => b = false ∧ why = s ∧ h' = h)) := by
 refine f150_calls (by simp) ?_
 cases b with
 |true => exact ⟨rfl, rfl⟩
 |false => exact ⟨s, rfl, rfl, rfl, rfl⟩
theorem must9_yes {h : Heap} {s : ByteArray} {K : Value → Heap → Prop} {Qp : List PanicEntry → Heap → Prop} (hok : ∀ v, K v h) : CallsH Tryz.prog 150 [.bool true, .string s] h (after K Qp) :=
 call_out9 must9_calls (fun v h' hr => by obtain ⟨_, e⟩ := hr; have e := e.symm; subst e; exact hok v) (fun v h' hr => by obtain ⟨h2, _⟩ := hr; cases h2)
theorem must9_no {h : Heap} {s : ByteArray} {K : Value → Heap → Prop} {Qp : List PanicEntry → Heap → Prop} (hbad : Qp (stop9 s) h) : CallsH Tryz.prog 150 [.bool false, .string s] h (after K Qp) :=
 call_out9 must9_calls (fun v h' hr => by obtain ⟨h2, _⟩ := hr; cases h2) (fun v h' hr => by obtain ⟨_, rfl, e⟩ := hr; have e := e.symm; subst e; exact hbad)
structure P9 (h0 : Heap) (kb sb mb c : Nat) (m : List KI) (S : Space) (av : Value) (A : List ByteArray) : Prop where
 kr : KR h0 kb sb mb c m
 so : Sorted m S
 args : ∀ h', Chg [] h0 h' → SL encS h' av A
def Tn (h0 h : Heap) (e : En) (h' : Heap) (e' : En) : Prop := As h0 h' e' ∧ Sx.Own e h e' h'
section
variable {h0 h h1 h' : Heap} {ab kb sb mb c : Nat} {now lo hi kd items : Int} {av lv pv lw rv : Value} {key key2 s : ByteArray} {t : Thing} {is : Bool} {A : List ByteArray} {L F : List Eff} {m : List KI} {S : Space} {M : List En} {T : List Nat} {e e' : En}
theorem P9.argF (p : P9 h0 kb sb mb c m S av A) (hi : 0 < A.length) : ∃ b o cc, av = .slice (some ⟨b, o, none⟩) A.length cc := by
 have hs := p.args h0 (Chg.refl _)
 obtain ⟨a, cc, rfl, hcc⟩ := hs.form
 obtain ⟨b, o, rfl⟩ := hs.addr hi
 exact ⟨b, o, cc, rfl⟩
theorem P9.argN (p : P9 h0 kb sb mb c m S av A) : ∃ a cc, av = .slice a A.length cc := by
 obtain ⟨a, cc, rfl, hcc⟩ := (p.args h0 (Chg.refl _)).form
 exact ⟨a, cc, rfl⟩
theorem P9.ix {i : Int} {b o n cc : Nat} {s : ByteArray} {K : Value → Prop} (p : P9 h0 kb sb mb c m S (.slice (some ⟨b, o, none⟩) n cc) A) (hc : Chg [] h0 h1) (j : Nat) (e : i = j) (hs : A[j]? = some s) (hk : K (.string s)) :
  0 ≤ i ∧ i < (n : Int) ∧ ∃ v, cell h1 b (o + i.toNat * 1) = some v ∧ K v := by
 subst e
 have hj := (List.getElem?_eq_some_iff.1 hs).1
 have hcs := (p.args h1 hc).cells encS_len hs
 have hn := (p.args h1 hc).len.1
 refine ⟨by omega, by omega, _, ?_, hk⟩
 have := hcs 0 _ rfl
 simpa using this
def Sub9 (h0 h : Heap) (e : En) (R : Value → En → Prop) (B : ByteArray → Prop) : Ending → Heap → Prop :=
 Out9 (fun v h' => ∃ e', R v e' ∧ Tn h0 h e h' e') (fun why h' => B why ∧ Chg e.fp h h')
theorem sub9_go {P : Program} {f i : Nat} {vs : List Value} {e0 : En} {R : Value → En → Prop} {B : ByteArray → Prop} {K : Value → Heap → Prop} {Qp : List PanicEntry → Heap → Prop} (x : As h0 h e0) (w : St e0.fp h h1 M) (hi : M[i]? = some e)
  (hc : As h0 h1 e → CallsH P f vs h1 (Sub9 h0 h1 e R B)) (hok : ∀ v h' e', R v e' → St e0.fp h h' (M.set i e') → K v h') (hbad : ∀ why h', B why → Chg e0.fp h h' → Qp (stop9 why) h') : CallsH P f vs h1 (after K Qp) :=
 call_out9 (hc (x.out w i hi).1) (fun v h' ⟨e', hR, _, o⟩ => hok v h' e' hR (w.own i hi o)) (fun why h' ⟨hB, c⟩ => hbad why h' hB (w.gone i hi c (fun _ hb => .inl hb)).chg)
theorem many9_calls (p : P9 h0 kb sb mb c m S av A) (hlo : 1 ≤ lo) (x : As h0 h (cE ab kb now av key t is pv lw rv lv L)) : CallsH Tryz.prog 149 [ptr ab, .int .i64 lo, .int .i64 hi] h
  (Sub9 h0 h (cE ab kb now av key t is pv lw rv lv L) (fun _ e' => (lo ≤ A.length ∧ (A.length : Int) ≤ hi) ∧ ∃ k0, A[0]? = some k0 ∧ e' = cE ab kb now av k0 t is pv lw rv lv L)
   (fun why => ¬ (lo ≤ A.length ∧ (A.length : Int) ≤ hi) ∧ why = wArgs)) := by
 obtain ⟨a, cc, rfl⟩ := p.argN
 refine f149_calls (by simp) ?_
 have w := x.st
 refine w.ldc 0 rfl rfl ?_
 refine Ai rfl (Ai (fun h1 => ?_) (fun h1 => ?_))
 ·refine w.ldc 0 rfl rfl ?_
  refine Ai rfl (Ai (fun h2 => ?_) (fun h2 => ?_))
  ·refine must9_yes fun _ => ?_
   obtain ⟨b, o, cc2, e⟩ := p.argF (by omega)
   obtain ⟨rfl, rfl⟩ : a = some ⟨b, o, none⟩ ∧ cc = cc2 := by cases e; exact ⟨rfl, rfl⟩
   have hA0 : A[0]? = some A[0] := List.getElem?_eq_getElem (by omega)
   refine w.ldc 0 rfl rfl ?_
   refine p.ix (x.base w) 0 rfl hA0 ?_
   refine w.ckey 0 rfl fun h2 w => ?_
   exact ⟨_, ⟨⟨by omega, by omega⟩, A[0], hA0, rfl⟩, x.out w 0 rfl⟩
  ·exact must9_no ⟨_, rfl, ⟨fun hh => by omega, rfl⟩, w.chg⟩
 ·exact must9_no ⟨_, rfl, ⟨fun hh => by omega, rfl⟩, w.chg⟩
end
end Go.Proofs.YtjnijlnmbjjgpaaGreatDoor
namespace Go.Proofs.YtjnijlnmbjjgpaaGreatDoor
open Go Go.Sx C
section
variable {h0 h h1 h' : Heap} {ab kb sb mb c : Nat} {now lo hi kd items : Int} {av lv pv lw rv : Value} {key key2 s : ByteArray} {t : Thing} {is is2 : Bool} {A : List ByteArray} {L F : List Eff} {m : List KI} {S : Space} {M : List En} {T : List Nat} {e e' : En}
theorem _root_.Go.Sx.St.cis {K : Heap → Prop} (w : St T h1 h M) (i : Nat) (hi : M[i]? = some (cE ab kb now av key t is pv lw rv lv L)) (k : ∀ h', St T h1 h' (M.set i (cE ab kb now av key t is2 pv lw rv lv L)) → K h') :
  ∃ l, Blk h ab l ∧ 7 + 1 ≤ l.length ∧ [Value.bool is2].length = 1 ∧ (∀ u ∈ [Value.bool is2], u.oneCell' = true) ∧ ∀ h', Put h h' ab (splice l 7 [.bool is2]) → K h' := by
 obtain ⟨hB, hO, hT, hb, n1, n2, n3⟩ := w.get i hi
 refine ⟨_, hB, by simp [cellsC], rfl, ones1 rfl, fun h' p => k h' ?_⟩
 refine w.set i hi p.chg (fun b hb => .inl (by simp at hb; simp [cE, En.fp, hb])) ⟨p.blk, hO.chg p.chg (fun b hb => by simp; rintro rfl; exact n1 hb), th_off hT p.chg (fun b hb => by simp; rintro rfl; exact n2 hb), fun b h9 => Nat.lt_of_lt_of_le (hb b h9) p.chg.size, n1, n2, n3⟩ (fun b hb => .inl hb)
theorem _root_.Go.Sx.St.clist {a : Option Addr} {n c : Nat} {K : Heap → Prop} (w : St T h1 h M) (i j : Nat) (hi : M[i]? = some (cE ab kb now av key t is pv lw rv lv L)) (hj : M[j]? = some (.o encD 5 (.slice a n c) F)) (hij : j ≠ i)
  (k : ∀ h', St T h1 h' ((M.set j En.nil).set i (cE ab kb now av key t is pv lw rv (.slice a n c) F)) → K h') :
  ∃ l, Blk h ab l ∧ 12 + 1 ≤ l.length ∧ [Value.slice a n c].length = 1 ∧ (∀ u ∈ [Value.slice a n c], u.oneCell' = true) ∧ ∀ h', Put h h' ab (splice l 12 [.slice a n c]) → K h' := by
 obtain ⟨hB, hO, hT, hlt3, n1, n2, n3⟩ := w.get i hi
 have hF : OL encD 5 h (.slice a n c) F := w.get j hj
 refine ⟨_, hB, by simp [cellsC], rfl, ones1 rfl, fun h' p => k h' ?_⟩
 have m1 : ∀ b ∈ vblk (.slice a n c), b ∉ (cE ab kb now av key t is pv lw rv lv L).fp := fun b hb => w.apart j i _ _ hj hi hij b hb
 have n1' : ab ∉ vblk (.slice a n c) := fun hm => m1 ab hm (by simp [cE, En.fp])
 have n3' : ∀ b ∈ vblk (.slice a n c), b ∉ bl3 pv lw rv := fun b hb hm => m1 b hb (by simp [cE, En.fp, hm])
 have hz := w.size
 have hil : i < M.length := (List.getElem?_eq_some_iff.1 hi).1
 have hjl : j < M.length := (List.getElem?_eq_some_iff.1 hj).1
 have hfi := (w.ents i _ hi).2
 have hfj := (w.ents j _ hj).2
 have he : (cE ab kb now av key t is pv lw rv (.slice a n c) F).at h' := ⟨p.blk, hF.chg p.chg (fun b hb => by simp; rintro rfl; exact n1' hb), th_off hT p.chg (fun b hb => by simp; rintro rfl; exact n2 hb), fun b h9 => Nat.lt_of_lt_of_le (hlt3 b h9) p.chg.size, n1', n2, n3'⟩
 have hsub : ∀ b ∈ (cE ab kb now av key t is pv lw rv (.slice a n c) F).fp, b ∈ (cE ab kb now av key t is pv lw rv lv L).fp ∨ b ∈ (En.o encD 5 (.slice a n c) F).fp := fun b hb => by
  rcases List.mem_cons.1 hb with rfl | hb
  ·exact .inl (List.mem_cons_self ..)
  ·rcases List.mem_append.1 hb with hb | hb
   ·exact .inr hb
   ·exact .inl (List.mem_cons_of_mem _ (List.mem_append_right _ hb))
 have hab : ab ∈ (cE ab kb now av key t is pv lw rv lv L).fp := List.mem_cons_self ..
 have get3 : ∀ {x : Nat} {e : En}, ((M.set j En.nil).set i (cE ab kb now av key t is pv lw rv (.slice a n c) F))[x]? = some e → (x = i ∧ e = cE ab kb now av key t is pv lw rv (.slice a n c) F) ∨ (x = j ∧ x ≠ i ∧ e = En.nil) ∨ (x ≠ i ∧ x ≠ j ∧ M[x]? = some e) := fun {x e} hx => by
  by_cases h1 : i = x
  ·subst h1
   rw [List.getElem?_set_self (by rw [List.length_set]; exact hil)] at hx
   cases hx
   exact .inl ⟨rfl, rfl⟩
  ·rw [List.getElem?_set_ne h1] at hx
   by_cases h2 : j = x
   ·subst h2
    rw [List.getElem?_set_self hjl] at hx
    cases hx
    exact .inr (.inl ⟨rfl, fun e => h1 e.symm, rfl⟩)
   ·rw [List.getElem?_set_ne h2] at hx
    exact .inr (.inr ⟨fun e => h1 e.symm, fun e => h2 e.symm, hx⟩)
 refine ⟨w.chg.trans p.chg (fun _ hk => hk) (fun b hb hlt => ?_), fun x e hx => ?_, fun x y e f hx hy hn b h1 h2 => ?_⟩
 ·simp at hb
  subst hb
  rcases hfi b hab with h9 | h9
  ·exact h9
  ·omega
 ·rcases get3 hx with ⟨rfl, rfl⟩ | ⟨rfl, _, rfl⟩ | ⟨h1, h2, hm⟩
  ·refine ⟨he, fun b hb => ?_⟩
   rcases hsub b hb with h9 | h9
   ·exact hfi b h9
   ·exact hfj b h9
  ·exact ⟨trivial, fun b hb => (nomatch (show b ∈ ([] : List Nat) from hb))⟩
  ·refine ⟨En.chg (w.get x hm) p.chg (fun b hb => ?_), (w.ents x e hm).2⟩
   simp
   rintro rfl
   exact w.apart i x _ e hi hm (fun e => h1 e.symm) b hab hb
 ·rcases get3 hx with ⟨rfl, rfl⟩ | ⟨rfl, _, rfl⟩ | ⟨x1, x2, hm⟩
  ·rcases get3 hy with ⟨rfl, rfl⟩ | ⟨rfl, _, rfl⟩ | ⟨y1, y2, hm2⟩
   ·exact hn rfl
   ·exact (nomatch (show b ∈ ([] : List Nat) from h2))
   ·rcases hsub b h1 with h9 | h9
    ·exact w.apart x y _ f hi hm2 hn b h9 h2
    ·exact w.apart j y _ f hj hm2 (fun e => y2 e.symm) b h9 h2
  ·exact (nomatch (show b ∈ ([] : List Nat) from h1))
  ·rcases get3 hy with ⟨rfl, rfl⟩ | ⟨rfl, _, rfl⟩ | ⟨y1, y2, hm2⟩
   ·rcases hsub b h2 with h9 | h9
    ·exact w.apart x y e _ hm hi hn b h1 h9
    ·exact w.apart x j e _ hm hj x2 b h1 h9
   ·exact (nomatch (show b ∈ ([] : List Nat) from h2))
   ·exact w.apart x y e f hm hm2 hn b h1 h2
theorem of9_calls (p : P9 h0 kb sb mb c m S av A) (x : As h0 h (cE ab kb now av key t is pv lw rv lv L)) : CallsH Tryz.prog 151 [ptr ab, .int .i64 kd] h
  (Sub9 h0 h (cE ab kb now av key t is pv lw rv lv L) (fun _ e' => okK kd (getS S key now) = true ∧ ∃ p2 w2 r2, e' = cE ab kb now av key ((getS S key now).getD zeroT) (getS S key now).isSome p2 w2 r2 lv L)
   (fun why => okK kd (getS S key now) = false ∧ why = wType)) := by
 refine f151_calls (by simp) ?_
 have w := x.st
 refine w.ldc 0 rfl rfl ?_
 refine w.ldc 0 rfl rfl ?_
 refine w.ldc 0 rfl rfl ?_
 refine call_ret (KGetF_calls key now (p.kr.ext (x.base w)) p.so) ?_
 rintro _ h2 ⟨⟨p2, w2, r2, rfl, tu, fr⟩, c2⟩
 generalize getS S key now = go at tu fr ⊢
 have w := w.add (e := thE (go.getD zeroT) p2 w2 r2) c2 ⟨tu, fun b hb => (fr b hb).2⟩ (fun b hb => (fr b hb).1)
 refine w.cthing 1 (j := 0) rfl rfl (by decide) fun h3 w => ?_
 refine w.cis 1 rfl fun h4 w => ?_
 have fin : ∀ {h' : Heap} {M' : List En} {j : Nat}, St (cE ab kb now av key t is pv lw rv lv L).fp h h' M' → M'[j]? = some (cE ab kb now av key (go.getD zeroT) go.isSome p2 w2 r2 lv L) →
   Tn h0 h (cE ab kb now av key t is pv lw rv lv L) h' (cE ab kb now av key (go.getD zeroT) go.isSome p2 w2 r2 lv L) := fun w hj => x.out w _ hj
 refine w.ldc 1 rfl rfl ?_
 cases go with
 |none =>
  refine must9_yes fun _ => ?_
  exact ⟨_, ⟨rfl, p2, w2, r2, rfl⟩, fin (j := 1) w rfl⟩
 |some u =>
  refine w.ldc 1 rfl rfl ?_
  refine Ai rfl (Ai (fun h1 => ?_) (fun h1 => ?_))
  ·refine must9_yes fun _ => ?_
   exact ⟨_, ⟨decide_eq_true h1, p2, w2, r2, rfl⟩, fin (j := 1) w rfl⟩
  ·exact must9_no ⟨_, rfl, ⟨decide_eq_false h1, rfl⟩, w.chg⟩
theorem begin9_calls (p : P9 h0 kb sb mb c m S av A) (hlo : 1 ≤ lo) (x : As h0 h (cE ab kb now av key t is pv lw rv lv L)) : CallsH Tryz.prog 157 [ptr ab, .int .i64 kd, .int .i64 lo, .int .i64 hi] h
  (Sub9 h0 h (cE ab kb now av key t is pv lw rv lv L) (fun _ e' => (lo ≤ A.length ∧ (A.length : Int) ≤ hi) ∧ ∃ k0, A[0]? = some k0 ∧ okK kd (getS S k0 now) = true ∧ ∃ p2 w2 r2, e' = cE ab kb now av k0 ((getS S k0 now).getD zeroT) (getS S k0 now).isSome p2 w2 r2 lv L)
   (fun why => (¬ (lo ≤ A.length ∧ (A.length : Int) ≤ hi) ∧ why = wArgs) ∨ (lo ≤ A.length ∧ (A.length : Int) ≤ hi) ∧ ∃ k0, A[0]? = some k0 ∧ okK kd (getS S k0 now) = false ∧ why = wType)) := by
 refine f157_calls (by simp) ?_
 have w := x.st
 refine sub9_go (i := 0) x w rfl (fun x => many9_calls p hlo x) ?_ ?_
 ·rintro _ h1 _ ⟨hb, k0, hk0, rfl⟩ w
  refine sub9_go (i := 0) x w rfl (fun x => of9_calls p x) ?_ ?_
  ·rintro _ h2 _ ⟨hk, p2, w2, r2, rfl⟩ w
   exact ⟨_, ⟨hb, k0, hk0, hk, p2, w2, r2, rfl⟩, x.out w 0 rfl⟩
  ·rintro why h2 ⟨hk, rfl⟩ c2
   exact ⟨_, rfl, .inr ⟨hb, k0, hk0, hk, rfl⟩, c2⟩
 ·rintro why h1 ⟨hb, rfl⟩ c1
  exact ⟨_, rfl, .inl ⟨hb, rfl⟩, c1⟩
def fitsE (key : ByteArray) (items : Int) (d : Eff) : Prop := items ≤ 65536 ∧ key.size ≤ 1048576 ∧ d.name.size ≤ 1048576 ∧ d.text.size ≤ 1048576
def putL (S : Space) (key : ByteArray) (now : Int) (L : List Eff) (d : Eff) : List Eff := (if L = [] then dropsS S key now else L) ++ [{ d with key := key }]
theorem take9_calls (d : Eff) (x : As h0 h (cE ab kb now av key t is pv lw rv lv L)) (hL : L.length ≤ 1000000) : CallsH Tryz.prog 233 [ptr ab, .agg ⟨encD d⟩] h
  (Sub9 h0 h (cE ab kb now av key t is pv lw rv lv L) (fun _ e' => ∃ lv', e' = cE ab kb now av key t is pv lw rv lv' (L ++ [{ d with key := key }])) (fun _ => False)) := by
 obtain ⟨la, lc, rfl⟩ := x.st.cform 0 rfl
 obtain ⟨op, k0, nm, tx, nn⟩ := d
 refine f233_calls (by simp) ?_
 intro b4 h1 g1
 have w : St (cE ab kb now av key t is pv lw rv (.slice la L.length lc) L).fp h h1 [.b b4 [.int .i64 op, .string k0, .string nm, .string tx, .int .i64 nn], cE ab kb now av key t is pv lw rv (.slice la L.length lc) L] := x.st.new g1
 refine w.ldc 1 rfl rfl ?_
 refine w.st1 0 rfl rfl rfl rfl fun h2 w => ?_
 refine w.ldc 1 rfl rfl ?_
 refine w.ldw 0 rfl rfl ?_
 intro b5 h3 g3
 have w := w.new g3
 refine w.capp 2 rfl rfl (one_sl (e := ⟨op, key, nm, tx, nn⟩) (w.get 0 rfl)) (by simp; omega) fun a3 c3 h4 hst => ?_
 refine hst fun h5 w => ?_
 exact ⟨_, ⟨_, rfl⟩, x.out w 2 rfl⟩
theorem put9_calls (p : P9 h0 kb sb mb c m S av A) (d : Eff) (x : As h0 h (cE ab kb now av key t is pv lw rv lv L)) (hL : L.length ≤ 1000000) (hk : key.size < 4611686018427387904) (hn : d.name.size < 4611686018427387904) (ht : d.text.size < 4611686018427387904) :
  CallsH Tryz.prog 155 [ptr ab, .agg ⟨encD d⟩, .int .i64 items] h
  (Sub9 h0 h (cE ab kb now av key t is pv lw rv lv L) (fun _ e' => fitsE key items d ∧ ∃ lv', e' = cE ab kb now av key t is pv lw rv lv' (putL S key now L d)) (fun why => ¬ fitsE key items d ∧ why = wLong)) := by
 obtain ⟨la, lc, rfl⟩ := x.st.cform 0 rfl
 obtain ⟨op, k0, nm, tx, nn⟩ := d
 have hn : nm.size < 4611686018427387904 := hn
 have ht : tx.size < 4611686018427387904 := ht
 refine f155_calls (by simp) ?_
 intro b4 h1 g1
 have w : St (cE ab kb now av key t is pv lw rv (.slice la L.length lc) L).fp h h1 [.b b4 [.int .i64 op, .string k0, .string nm, .string tx, .int .i64 nn], cE ab kb now av key t is pv lw rv (.slice la L.length lc) L] := x.st.new g1
 have bad : ∀ {h' : Heap}, ¬ fitsE key items ⟨op, k0, nm, tx, nn⟩ → Chg (cE ab kb now av key t is pv lw rv (.slice la L.length lc) L).fp h h' → ∃ why, stop9 wLong = stop9 why ∧ (¬ fitsE key items ⟨op, k0, nm, tx, nn⟩ ∧ why = wLong) ∧ Chg (cE ab kb now av key t is pv lw rv (.slice la L.length lc) L).fp h h' :=
  fun hh hc => ⟨_, rfl, ⟨hh, rfl⟩, hc⟩
 refine Ai rfl (Ai (fun q1 => ?_) (fun q1 => ?_))
 rotate_left
 ·exact must9_no (bad (fun hh => q1 hh.1) w.chg)
 refine w.ldc 1 rfl rfl ?_
 refine Ai rfl (Ai (fun q2 => ?_) (fun q2 => ?_))
 rotate_left
 ·exact must9_no (bad (fun hh => by have := hh.2.1; omega) w.chg)
 refine w.ld1 0 rfl rfl ?_
 refine Ai rfl (Ai (fun q3 => ?_) (fun q3 => ?_))
 rotate_left
 ·exact must9_no (bad (fun hh => by have : nm.size ≤ 1048576 := hh.2.2.1; omega) w.chg)
 refine w.ld1 0 rfl rfl ?_
 refine Ai rfl (Ai (fun q4 => ?_) (fun q4 => ?_))
 rotate_left
 ·exact must9_no (bad (fun hh => by have : tx.size ≤ 1048576 := hh.2.2.2; omega) w.chg)
 have fit : fitsE key items ⟨op, k0, nm, tx, nn⟩ := ⟨q1, by omega, by show nm.size ≤ _; omega, by show tx.size ≤ _; omega⟩
 refine must9_yes fun _ => ?_
 have rest : ∀ {h' : Heap} {la2 : Option Addr} {lc2 : Nat} {L2 : List Eff} {M' : List En}, L2 ++ [⟨op, key, nm, tx, nn⟩] = putL S key now L ⟨op, k0, nm, tx, nn⟩ → L2.length ≤ 1000001 →
   St (cE ab kb now av key t is pv lw rv (.slice la L.length lc) L).fp h h' (.b b4 [.int .i64 op, .string k0, .string nm, .string tx, .int .i64 nn] :: cE ab kb now av key t is pv lw rv (.slice la2 L2.length lc2) L2 :: M') →
   swp Tryz.prog (.seq (.ops f155r4) (.ops f155r5)) (retQ [] (Sub9 h0 h (cE ab kb now av key t is pv lw rv (.slice la L.length lc) L) (fun _ e' => fitsE key items ⟨op, k0, nm, tx, nn⟩ ∧ ∃ lv', e' = cE ab kb now av key t is pv lw rv lv' (putL S key now L ⟨op, k0, nm, tx, nn⟩)) (fun why => ¬ fitsE key items ⟨op, k0, nm, tx, nn⟩ ∧ why = wLong)))
    (mk [(0, ptr ab), (4, ptr b4)]) [] h' := by
  intro h' la2 lc2 L2 M' he hl2 w
  refine w.ldc 1 rfl rfl ?_
  refine w.st1 0 rfl rfl rfl rfl fun h2 w => ?_
  refine w.ldc 1 rfl rfl ?_
  refine w.ldw 0 rfl rfl ?_
  intro b5 h3 g3
  have w := w.new g3
  refine w.capp 2 rfl rfl (one_sl (e := ⟨op, key, nm, tx, nn⟩) (w.get 0 rfl)) (by simp; omega) fun a3 c3 h4 hst => ?_
  refine hst fun h5 w => ?_
  exact ⟨_, ⟨fit, _, by rw [← he]⟩, x.out w 2 rfl⟩
 refine w.ldc 1 rfl rfl ?_
 refine Ai rfl (Ai (fun q5 => ?_) (fun q5 => ?_))
 ·have q5 : L = [] := List.eq_nil_of_length_eq_zero (by omega)
  refine w.ldc 1 rfl rfl ?_
  refine w.ldc 1 rfl rfl ?_
  refine w.ldc 1 rfl rfl ?_
  refine call_ret (BDrops_calls key now (p.kr.ext (x.base w)) p.so) ?_
  rintro _ h2 ⟨od, hbd, c2⟩
  obtain ⟨da, dc, rfl, _⟩ := od.sl.form
  have w := w.add (e := .o encD 5 (.slice da (dropsS S key now).length dc) (dropsS S key now)) c2 od hbd
  refine w.clist 2 0 rfl rfl (by decide) fun h3 w => ?_
  have w := w.pick [1, 2] (by decide)
  exact cut_at [(0, ptr ab), (4, ptr b4)] ⟨rfl, rfl, trivial⟩ (rest (M' := []) (by unfold putL; rw [if_pos q5]) (by have := drops_len S key now; omega) w)
 ·have q5 : L ≠ [] := fun e => q5 (by rw [e]; rfl)
  exact cut_at [(0, ptr ab), (4, ptr b4)] ⟨rfl, rfl, trivial⟩ (rest (M' := []) (by unfold putL; rw [if_neg q5]) (by omega) w)
end
end Go.Proofs.YtjnijlnmbjjgpaaGreatDoor
namespace Go.Proofs.YtjnijlnmbjjgpaaGreatDoor
open Go Go.Sx C
def toQ (s : ByteArray) : Int × Int × ByteArray := (4, 0, s)
def qs (l : List ByteArray) : List (Int × Int × ByteArray) := l.map toQ
theorem text9_calls {h : Heap} {s : ByteArray} : CallsH Tryz.prog 158 [.string s] h (Ret fun r h' => r = repV 4 0 s ∧ Chg [] h h') := by
 refine f158_calls (by simp) ?_
 intro b h1 g1
 refine Ei _ (Ai g1.blk (Ai (by decide) (Ai rfl (Ai (repV_ones 4 0 s) ?_))))
 intro h2 p2
 have g2 := g1.put p2
 exact ⟨_, rfl, cells_blk g2.blk, rfl, g2.chg⟩
theorem number9_calls {h : Heap} {n : Int} : CallsH Tryz.prog 156 [.int .i64 n] h (Ret fun r h' => r = repV 3 n noText ∧ Chg [] h h') := by
 refine f156_calls (by simp) ?_
 intro b h1 g1
 refine Ei _ (Ai g1.blk (Ai (by decide) (Ai rfl (Ai (repV_ones 3 n noText) ?_))))
 intro h2 p2
 have g2 := g1.put p2
 exact ⟨_, rfl, cells_blk g2.blk, rfl, g2.chg⟩
def ListAt (z : Nat) (h : Heap) (v : Value) (l : List (Int × Int × ByteArray)) : Prop := ∃ a n c, v = .agg ⟨[.int .i64 5, .int .i64 0, .string noText, .slice a n c]⟩ ∧ OL encQ 4 h (.slice a n c) l ∧ ∀ b ∈ ablk a, z ≤ b
def EachR (h : Heap) (ss : List ByteArray) (r : Value) (h' : Heap) : Prop := ∃ b, r = .slice (some ⟨b, 0, none⟩) ss.length ss.length ∧ Blk h' b (ss.map .string) ∧ h.size ≤ b ∧ Chg [] h h'
theorem one9_calls {h : Heap} {s : ByteArray} : CallsH Tryz.prog 171 [.string s] h (Ret (EachR h [s])) := by
 refine f171_calls (by simp) ?_
 intro b h1 g1
 exact ⟨b, rfl, g1.blk, by have := g1.id; omega, g1.chg⟩
theorem ix9 {h : Heap} {b n j : Nat} {i : Int} {us : List Value} {v : Value} {K : Value → Prop} (hB : Blk h b us) (e : i = j) (hn : j < n) (hs : us[j]? = some v) (k : K v) : 0 ≤ i ∧ i < (n : Int) ∧ ∃ v, cell h b (0 + i.toNat * 1) = some v ∧ K v := by
 subst e
 refine ⟨by omega, by omega, v, ?_, k⟩
 have := cell_blk hB hs
 simpa using this
theorem flat_len {α : Type} {f : α → List ByteArray} (hf : ∀ x, (f x).length ≤ 2) : ∀ l : List α, (l.flatMap f).length ≤ 2 * l.length
 |[] => by simp
 |x :: l => by
  have h1 := hf x
  have h2 := flat_len hf l
  rw [List.flatMap_cons, List.length_append, List.length_cons]
  omega
theorem flat_take {α : Type} {f : α → List ByteArray} {l : List α} {q : Nat} (hq : q < l.length) : (l.take (q + 1)).flatMap f = (l.take q).flatMap f ++ f l[q] := by
 rw [List.take_succ_eq_append_getElem hq, List.flatMap_append]; simp
theorem qs_snoc {pre ss : List ByteArray} {j : Nat} (hj : j < ss.length) : qs (pre ++ ss.take (j + 1)) = qs (pre ++ ss.take j) ++ [(4, 0, ss[j])] := by
 rw [List.take_succ_eq_append_getElem hj, ← List.append_assoc]
 unfold qs
 rw [List.map_append (l₁ := pre ++ ss.take j)]; rfl
theorem listStr_calls {h : Heap} {v : Value} {l : List ByteArray} (hs : SL encS h v l) (hl : l.length ≤ 100000) :
  CallsH Tryz.prog 170 [v, .func (.func 171) #[] #[]] h (Ret fun r h' => ListAt h.size h' r (qs (l.flatMap (fun s : ByteArray => [s]))) ∧ Chg [] h h') := by
 obtain ⟨a, cc, rfl, _⟩ := hs.form
 have two : ∀ x : ByteArray, ((fun s : ByteArray => [s]) x).length ≤ 2 := fun x => by simp
 refine f170_calls (by simp) ?_
 intro b4 h1 g1
 have w := (St.start h).new g1
 intro b5 h2 g2
 have w := w.new g2
 refine w.st1 0 rfl rfl rfl rfl fun h3 w => ?_
 have w := w.empty (enc := encQ) (size := 4)
 refine loop_intro (fun q : Nat × Value => [(1, .func (.func 171) #[] #[]), (4, ptr b4), (5, ptr b5), (11, .slice a l.length cc), (12, .int .i64 l.length), (13, .int .i64 q.1)])
  (fun q h' => q.1 ≤ l.length ∧ St [] h h' [.o encQ 4 q.2 (qs ((l.take q.1).flatMap (fun s : ByteArray => [s]))), .b b5 [.int .i64 5, .int .i64 0, .string noText, q.2], .b b4 [.int .i64 0, .int .i64 0, .string ⟨#[]⟩, .slice none 0 0]])
  (fun q => l.length - q.1) (0, .slice none 0 0) ⟨rfl, rfl, rfl, rfl, rfl, rfl, trivial⟩ ⟨Nat.zero_le _, w⟩ ?_
 rintro ⟨q, v⟩ h4 ⟨hq, w⟩
 have hq : q ≤ l.length := hq
 obtain ⟨a4, c4, rfl, _⟩ := (show OL encQ 4 h4 v (qs ((l.take q).flatMap (fun s : ByteArray => [s]))) from w.get 0 rfl).sl.form
 refine Ai rfl (Ai (fun hlt => ?_) (fun hge => ?_))
 ·have hlt : q < l.length := by omega
  obtain ⟨b, o, rfl⟩ := hs.addr (by omega)
  have hcs := (hs.ext w.chg).cells encS_len (List.getElem?_eq_getElem hlt)
  obtain ⟨ss, hss⟩ : ∃ ss, ss = (fun s : ByteArray => [s]) l[q] := ⟨_, rfl⟩
  obtain ⟨pre, hpe⟩ : ∃ pre, pre = (l.take q).flatMap (fun s : ByteArray => [s]) := ⟨_, rfl⟩
  have hsl : ss.length ≤ 2 := by rw [hss]; exact two _
  have hpre : pre.length ≤ 200000 := by rw [hpe]; have := flat_len two (l.take q); rw [List.length_take] at this; omega
  have e9 : qs ((l.take (q + 1)).flatMap (fun s : ByteArray => [s])) = qs (pre ++ ss.take ss.length) := by rw [flat_take hlt, List.take_length, hpe, hss]
  have ln : (qs ((l.take q).flatMap (fun s : ByteArray => [s]))).length = pre.length := by rw [hpe]; exact List.length_map _
  have e0 : qs ((l.take q).flatMap (fun s : ByteArray => [s])) = qs (pre ++ ss.take 0) := by rw [hpe]; simp
  rw [ln, e0] at w
  refine Ai (by omega) (Ai (by omega) (Ei _ (Ai (hcs 0 _ rfl) ?_)))
  refine call_ret (show CallsH _ _ _ _ (Ret (EachR _ ss)) by rw [hss]; exact one9_calls) ?_
  rintro _ h5 ⟨bx, rfl, Bx, hbx, c5⟩
  have w := w.add (e := .b bx (ss.map .string)) c5 Bx (fun k hk => by simp [En.fp] at hk; omega)
  have w := w
  refine loop_intro (fun p : Nat × Value => [(1, .func (.func 171) #[] #[]), (4, ptr b4), (5, ptr b5), (11, .slice (some ⟨b, o, none⟩) l.length cc), (12, .int .i64 l.length), (13, .int .i64 q), (19, .slice (some ⟨bx, 0, none⟩) ss.length ss.length), (20, .int .i64 ss.length), (21, .int .i64 p.1)])
   (fun p h' => p.1 ≤ ss.length ∧ St [] h h' [.b bx (ss.map .string), .o encQ 4 p.2 (qs (pre ++ ss.take p.1)), .b b5 [.int .i64 5, .int .i64 0, .string noText, p.2], .b b4 [.int .i64 0, .int .i64 0, .string ⟨#[]⟩, .slice none 0 0]])
   (fun p => ss.length - p.1) (0, .slice a4 pre.length c4) ⟨rfl, rfl, rfl, rfl, rfl, rfl, rfl, rfl, rfl, trivial⟩ ⟨Nat.zero_le _, w⟩ ?_
  rintro ⟨j, v⟩ h6 ⟨hj, w⟩
  have hj : j ≤ ss.length := hj
  obtain ⟨a6, c6, rfl, _⟩ := (show OL encQ 4 h6 v (qs (pre ++ ss.take j)) from w.get 1 rfl).sl.form
  refine Ai rfl (Ai (fun hlt2 => ?_) (fun hge2 => ?_))
  ·have hlt2 : j < ss.length := by omega
   have hqn : (qs (pre ++ ss.take j)).length ≤ 200002 := by unfold qs; simp; omega
   refine ix9 (w.get 0 rfl) rfl hlt2 (v := .string ss[j]) (by simp [hlt2]) ?_
   refine w.ld1 2 rfl rfl ?_
   refine w.callqv text9_calls fun h7 w => ?_
   intro b9 h8 g8
   have w := w.new g8
   refine w.app 2 rfl encQ_len encQ_one rfl (SL.one encQ_len (x := (4, 0, ss[j])) (w.get 0 rfl)) (by simp only [List.length_singleton]; omega) fun v' h9 w => ?_
   rw [← qs_snoc hlt2] at w
   obtain ⟨a9, c9, rfl, _⟩ := (show OL encQ 4 h9 v' (qs (pre ++ ss.take (j + 1))) from w.get 2 rfl).sl.form
   refine w.st1 3 rfl rfl rfl rfl fun h10 w => ?_
   have w := w.pick [1, 2, 3, 4] (by decide)
   refine Ai rfl (fun z hz => ?_)
   have hz := add_in hz (by omega) (by omega)
   subst hz
   exact Ai rfl (Ei (j + 1, _) (Ai ⟨rfl, rfl, rfl, rfl, rfl, rfl, rfl, rfl, rfl, trivial⟩ (Ai ⟨hlt2, w⟩ (by simp only; omega))))
  ·have hjn : j = ss.length := by omega
   subst hjn
   rw [← e9] at w
   have w := w.pick [1, 2, 3] (by decide)
   refine Ai rfl (fun z hz => ?_)
   have hz := add_in hz (by omega) (by omega)
   subst hz
   exact Ai rfl (Ei (q + 1, _) (Ai ⟨rfl, rfl, rfl, rfl, rfl, rfl, trivial⟩ (Ai ⟨hlt, w⟩ (by simp only; omega))))
 ·have hkl : q = l.length := by omega
  subst hkl
  rw [List.take_length] at w
  refine w.ldw 1 rfl rfl ?_
  refine w.st1 2 rfl rfl rfl rfl fun h7 w => ?_
  refine ⟨_, rfl, cells_blk (w.get 2 rfl), ⟨_, _, _, rfl, (show OL encQ 4 h7 _ (qs (l.flatMap (fun s : ByteArray => [s]))) from w.get 0 rfl), fun b hb => ?_⟩, w.chg⟩
  rcases (w.ents 0 _ rfl).2 b hb with h9 | h9
  ·exact (nomatch h9)
  ·exact h9
theorem rtexts_calls {h : Heap} {v : Value} {l : List ByteArray} (hs : SL encS h v l) (hl : l.length ≤ 100000) :
  CallsH Tryz.prog 123 [v] h (Ret fun r h' => RepAt h.size h' r (listR l) ∧ Chg [] h h') := by
 obtain ⟨a, cc, rfl, _⟩ := hs.form
 refine f123_calls (by simp) ?_
 intro b2 h1 g1
 have w := (St.start h).new g1
 intro b3 h2 g2
 have w := w.new g2
 refine w.st1 0 rfl rfl rfl rfl fun h3 w => ?_
 have w := w.empty (enc := encQ) (size := 4)
 refine loop_intro (fun q : Nat × Value => [(0, .slice a l.length cc), (2, ptr b2), (3, ptr b3), (4, .int .i64 q.1)])
  (fun q h' => q.1 ≤ l.length ∧ St [] h h' [.o encQ 4 q.2 (qs (l.take q.1)), .b b3 [.int .i64 5, .int .i64 0, .string noText, q.2], .b b2 [.int .i64 0, .int .i64 0, .string ⟨#[]⟩, .slice none 0 0]])
  (fun q => l.length - q.1) (0, .slice none 0 0) ⟨rfl, rfl, rfl, rfl, trivial⟩ ⟨Nat.zero_le _, w⟩ ?_
 rintro ⟨q, v⟩ h4 ⟨hq, w⟩
 have hq : q ≤ l.length := hq
 obtain ⟨a4, c4, rfl, _⟩ := (show OL encQ 4 h4 v (qs (l.take q)) from w.get 0 rfl).sl.form
 refine Ai rfl (Ai (fun hlt => ?_) (fun hge => ?_))
 ·have hlt : q < l.length := by omega
  obtain ⟨b, o, rfl⟩ := hs.addr (by omega)
  have hcs := (hs.ext w.chg).cells encS_len (List.getElem?_eq_getElem hlt)
  have hqn : (qs (l.take q)).length ≤ 100000 := by unfold qs; simp; omega
  have e1 : qs (l.take (q + 1)) = qs (l.take q) ++ [(4, 0, l[q])] := qs_snoc (pre := []) hlt
  refine w.ld1 1 rfl rfl ?_
  refine Ai (by omega) (Ai (by omega) (Ei _ (Ai (hcs 0 _ rfl) ?_)))
  refine w.callqv rText9_calls fun h7 w => ?_
  intro b9 h8 g8
  have w := w.new g8
  refine w.app 1 rfl encQ_len encQ_one rfl (SL.one encQ_len (x := (4, 0, l[q])) (w.get 0 rfl)) (by simp only [List.length_singleton]; omega) fun v' h9 w => ?_
  rw [← e1] at w
  obtain ⟨a9, c9, rfl, _⟩ := (show OL encQ 4 h9 v' (qs (l.take (q + 1))) from w.get 1 rfl).sl.form
  refine w.st1 2 rfl rfl rfl rfl fun h10 w => ?_
  have w := w.pick [1, 2, 3] (by decide)
  refine Ai rfl (fun z hz => ?_)
  have hz := add_in hz (by omega) (by omega)
  subst hz
  exact Ai rfl (Ei (q + 1, _) (Ai ⟨rfl, rfl, rfl, rfl, trivial⟩ (Ai ⟨hlt, w⟩ (by simp only; omega))))
 ·have hkl : q = l.length := by omega
  subst hkl
  rw [List.take_length] at w
  refine w.ldw 1 rfl rfl ?_
  refine w.st1 2 rfl rfl rfl rfl fun h5 w => ?_
  have eo := w.ents 0 _ rfl
  exact ⟨_, rfl, cells_blk (w.get 2 rfl), ⟨_, _, _, rfl, (show OL encQ 4 h5 _ (qs l) from w.get 0 rfl).sl, fun b hb => by
   rcases eo.2 b hb with h1 | h1
   ·cases h1
   ·exact h1⟩, w.chg⟩
abbrev nilV : Value := .slice none 0 0
abbrev c0 (ab kb : Nat) (now : Int) (av : Value) : En := cE ab kb now av noText zeroT false nilV nilV nilV nilV []
def Cmd9 (h0 h : Heap) (ab kb : Nat) (now : Int) (av : Value) (res : Res) : Ending → Heap → Prop :=
 Out9 (fun r h' => ∃ q E key t is pv lw rv lv, res = .ok (q, E) ∧ RepAt h.size h' r q ∧ Tn h0 h (c0 ab kb now av) h' (cE ab kb now av key t is pv lw rv lv E)) (fun why h' => res = .error why ∧ Chg (c0 ab kb now av).fp h h')
structure T9 (t : Thing) : Prop where
 ps : t.pairs.length ≤ 2000
 ls : t.list.length ≤ 2000
 rs : t.ranks.length ≤ 2000
 pt : ∀ p ∈ t.pairs, p.text.size ≤ 2000
 ri : ∀ r ∈ t.ranks, In64 r.score
 rz : ∀ r ∈ t.ranks, r.name.size ≤ 2000
 lz : ∀ x ∈ t.list, x.size ≤ 2000
def S9 (S : Space) : Prop := ∀ p ∈ S, T9 p.2
theorem getS_mem {S : Space} {key : ByteArray} {now : Int} {t : Thing} (h : getS S key now = some t) : (key, t) ∈ S := by
 unfold getS at h
 split at h
 ·rename_i u hu
  split at h
  ·cases h
  ·cases h; exact findS_mem hu
 ·cases h
theorem S9.get {S : Space} (s : S9 S) (key : ByteArray) (now : Int) : T9 ((getS S key now).getD zeroT) := by
 cases hg : getS S key now with
 |none => exact ⟨Nat.zero_le _, Nat.zero_le _, Nat.zero_le _, fun p hp => (nomatch hp), fun r hr => (nomatch hr), fun r hr => (nomatch hr), fun x hx => (nomatch hx)⟩
 |some t => exact s _ (getS_mem hg)
section
variable {h0 h h1 h2 h' : Heap} {ab kb sb mb c b2 : Nat} {now lo hi kd items k n : Int} {av lv pv lw rv : Value} {key s why : ByteArray} {t : Thing} {is : Bool} {A : List ByteArray} {L E : List Eff} {m : List KI} {S : Space} {M : List En} {T : List Nat} {e e' : En} {res : Res} {q : Rep} {ls : List (Int × Int × ByteArray)}
theorem bad9 (he : res = .error why) (hc : Chg (c0 ab kb now av).fp h h') : ∃ w, stop9 why = stop9 w ∧ res = .error w ∧ Chg (c0 ab kb now av).fp h h' := ⟨why, rfl, he, hc⟩
theorem fin9 (x : As h0 h (c0 ab kb now av)) (w : St (c0 ab kb now av).fp h h' M) (i j : Nat) (hi : M[i]? = some (.b b2 [.int .i64 k, .int .i64 n, .string s, .slice none 0 0])) (hj : M[j]? = some (cE ab kb now av key t is pv lw rv lv E)) (he : res = .ok (rep k n s, E)) :
  ∃ vs, vs.length = 4 ∧ Cells h' b2 0 vs ∧ Cmd9 h0 h ab kb now av res (.returned (.agg ⟨vs⟩)) h' :=
 ⟨_, rfl, cells_blk (w.get i hi), rep k n s, E, key, t, is, pv, lw, rv, lv, he, ⟨none, 0, 0, rfl, SL.nil, fun b hb => (nomatch (show b ∈ ([] : List Nat) from hb))⟩, x.out w j hj⟩
theorem finl9 {a : Option Addr} {n c : Nat} (x : As h0 h (c0 ab kb now av)) (w : St (c0 ab kb now av).fp h h' M) (i j l : Nat) (hi : M[i]? = some (.b b2 [.int .i64 5, .int .i64 0, .string noText, .slice a n c])) (hj : M[j]? = some (cE ab kb now av key t is pv lw rv lv E))
  (hl : M[l]? = some (.o encQ 4 (.slice a n c) ls)) (hlb : ∀ b ∈ ablk a, h.size ≤ b) (he : res = .ok (⟨5, 0, noText, ls⟩, E)) : ∃ vs, vs.length = 4 ∧ Cells h' b2 0 vs ∧ Cmd9 h0 h ab kb now av res (.returned (.agg ⟨vs⟩)) h' :=
 ⟨_, rfl, cells_blk (w.get i hi), ⟨5, 0, noText, ls⟩, E, key, t, is, pv, lw, rv, lv, he, ⟨a, n, c, rfl, (show OL encQ 4 h' (.slice a n c) ls from w.get l hl).sl, hlb⟩, x.out w j hj⟩
theorem _root_.Go.Sx.St.thc (w : St T h1 h M) (i : Nat) (hi : M[i]? = some (cE ab kb now av key t is pv lw rv lv L)) : SL encP h pv t.pairs ∧ SL encS h lw t.list ∧ SL encR h rv t.ranks := by
 obtain ⟨_, _, hT, _⟩ := w.get i hi
 obtain ⟨p, l, r, e, h1, h2, h3⟩ := hT
 simp only [cellsT, List.cons.injEq, and_true, true_and] at e
 obtain ⟨rfl, rfl, rfl⟩ := e
 exact ⟨h1, h2, h3⟩
theorem sl_ix {i : Int} {b o n cc : Nat} {l : List ByteArray} {K : Value → Prop} (hs : SL encS h (.slice (some ⟨b, o, none⟩) n cc) l) (j : Nat) (e : i = j) (hj : l[j]? = some s) (hk : K (.string s)) : 0 ≤ i ∧ i < (n : Int) ∧ ∃ v, cell h b (o + i.toNat * 1) = some v ∧ K v := by
 subst e
 have h1 := (List.getElem?_eq_some_iff.1 hj).1
 have hcs := hs.cells encS_len hj
 have hn := hs.len.1
 refine ⟨by omega, by omega, _, ?_, hk⟩
 have := hcs 0 _ rfl
 simpa using this
theorem kindly_ok {kd : Int} {f : Thing → Res} (hk : okK kd (getS S key now) = true) : kindly S now kd key f = f ((getS S key now).getD zeroT) := by
 unfold kindly
 cases hg : getS S key now with
 |none => rfl
 |some t => rw [hg] at hk; exact if_pos (of_decide_eq_true hk)
theorem kindly_no {kd : Int} {f : Thing → Res} (hk : okK kd (getS S key now) = false) : kindly S now kd key f = .error wType := by
 unfold kindly
 cases hg : getS S key now with
 |none => rw [hg] at hk; cases hk
 |some t => rw [hg] at hk; exact if_neg (of_decide_eq_false hk)
def NoB (S : Space) (now : Int) (A : List ByteArray) (lo hi kd : Int) (why : ByteArray) : Prop :=
 (¬ (lo ≤ A.length ∧ (A.length : Int) ≤ hi) ∧ why = wArgs) ∨ (lo ≤ A.length ∧ (A.length : Int) ≤ hi) ∧ ∃ k0, A[0]? = some k0 ∧ okK kd (getS S k0 now) = false ∧ why = wType
theorem NoB.a1 {f : ByteArray → Thing → Res} (h : NoB S now A 1 1 kd why) : arg1 (fun key => kindly S now kd key (f key)) A = .error why := by
 rcases h with ⟨hb, rfl⟩ | ⟨hb, k0, hk0, hk, rfl⟩
 ·exact arg1_bad hb
 ·obtain ⟨k1, rfl⟩ := one_arg hb
  cases hk0
  exact kindly_no hk
theorem NoB.a2 {f : ByteArray → ByteArray → Thing → Res} (h : NoB S now A 2 2 kd why) : arg2 (fun key n => kindly S now kd key (f key n)) A = .error why := by
 rcases h with ⟨hb, rfl⟩ | ⟨hb, k0, hk0, hk, rfl⟩
 ·exact arg2_bad hb
 ·obtain ⟨k1, k2, rfl⟩ := two_arg hb
  cases hk0
  exact kindly_no hk
theorem mkOk9 {ok : Bool} {r : Rep} (h : items ≤ 65536 ∧ key.size ≤ 1048576 ∧ ok = true) : makes S now key items ok r E = .ok (r, dropsS S key now ++ E) := if_pos h
theorem mkNo9 {ok : Bool} {r : Rep} (h : ¬ (items ≤ 65536 ∧ key.size ≤ 1048576 ∧ ok = true)) : makes S now key items ok r E = .error wLong := if_neg h
def accE (S : Space) (key : ByteArray) (now : Int) (D : List Eff) (q : Nat) : List Eff := if q = 0 then [] else dropsS S key now ++ D.take q
theorem acc_put {D : List Eff} {q : Nat} {d : Eff} (hq : D[q]? = some { d with key := key }) : putL S key now (accE S key now D q) d = accE S key now D (q + 1) := by
 have hl := (List.getElem?_eq_some_iff.1 hq).1
 have hd := (List.getElem?_eq_some_iff.1 hq).2
 unfold putL
 have e1 : accE S key now D (q + 1) = dropsS S key now ++ (D.take q ++ [{ d with key := key }]) := by
  unfold accE
  rw [if_neg (by omega), List.take_succ_eq_append_getElem hl, hd]
 rw [e1]
 by_cases h0 : q = 0
 ·subst h0
  rw [show accE S key now D 0 = [] from if_pos rfl, if_pos rfl]
  simp
 ·have e2 : accE S key now D q = dropsS S key now ++ D.take q := by unfold accE; rw [if_neg h0]
  have hne : dropsS S key now ++ D.take q ≠ [] := by
   intro he
   have : (dropsS S key now ++ D.take q).length = 0 := by rw [he]; rfl
   rw [List.length_append, List.length_take] at this
   omega
  rw [e2, if_neg hne, List.append_assoc]
theorem acc_len (D : List Eff) (q : Nat) (hq : q ≤ D.length) : (accE S key now D q).length ≤ q + 1 := by
 unfold accE
 split
 ·simp
 ·have := drops_len S key now
  simp; omega
theorem acc_all {D : List Eff} (hD : D ≠ []) : accE S key now D D.length = dropsS S key now ++ D := by
 unfold accE
 rw [if_neg (fun h => hD (List.eq_nil_of_length_eq_zero h)), List.take_length]
end
end Go.Proofs.YtjnijlnmbjjgpaaGreatDoor
namespace Go.Proofs.YtjnijlnmbjjgpaaGreatDoor
open Go Go.Sx C
def Jd9 (res : Res) (q : Rep) (E : List Eff) (why : ByteArray) : Prop := (why = noText ∧ res = .ok (q, E)) ∨ (why ≠ noText ∧ res = .error why)
section
variable {h0 h h1 h' : Heap} {xb i : Nat} {now n m : Int} {kv av lv pv lw rv : Value} {k : List RX} {A : List ByteArray} {L E : List Eff} {why key s u : ByteArray} {t : Thing} {M : List En} {T : List Nat} {res : Res}
theorem Jd9.ok {q : Rep} {E : List Eff} (h : res = .ok (q, E)) : Jd9 res q E noText := .inl ⟨rfl, h⟩
theorem Jd9.no {q : Rep} {E : List Eff} (hw : why ≠ noText) (h : res = .error why) : Jd9 res q E why := .inr ⟨hw, h⟩
def Reply9 (h0 h : Heap) (xb : Nat) (t : Thing) (pv lw rv : Value) (key : ByteArray) (kv : Value) (now : Int) (av lv : Value) (res : Res) (r : Value) (h' : Heap) : Prop :=
 ∃ q lv' E why, RepAt h.size h' r q ∧ (∃ t' pv' lw' rv' key', RxO9 h0 h (aT xb t pv lw rv key kv now av lv [] noText) h' (aT xb t' pv' lw' rv' key' kv now av lv' E why)) ∧ Jd9 res q E why
theorem Reply9.fin {b4 : Nat} {a m : Int} {lv' : Value} {E : List Eff} (x : As h0 h (aT xb t pv lw rv key kv now av lv [] noText)) (w : St (xb :: vblk lv) h h' M) (i j : Nat) (hi : M[i]? = some (.b b4 [.int .i64 a, .int .i64 m, .string s, .slice none 0 0])) (hj : M[j]? = some (aT xb t pv lw rv key kv now av lv' E why))
  (hd : Jd9 res (rep a m s) E why) : ∃ vs, vs.length = 4 ∧ Cells h' b4 0 vs ∧ Reply9 h0 h xb t pv lw rv key kv now av lv res (.agg ⟨vs⟩) h' :=
 ⟨_, rfl, cells_blk (w.get i hi), rep a m s, lv', E, why, ⟨none, 0, 0, rfl, SL.nil, fun b hb => (nomatch (show b ∈ ([] : List Nat) from hb))⟩, ⟨t, pv, lw, rv, key, x.out w j hj⟩, hd⟩
theorem th_lists (x : TH h (cellsT t pv lw rv) t) : SL encP h pv t.pairs ∧ SL encS h lw t.list ∧ SL encR h rv t.ranks := by
 obtain ⟨p, l, r, e, h1, h2, h3⟩ := x
 simp only [cellsT, List.cons.injEq, and_true, true_and] at e
 obtain ⟨rfl, rfl, rfl⟩ := e
 exact ⟨h1, h2, h3⟩
structure RG9 (h0 : Heap) (kv : Value) (k : List RX) (av : Value) (A : List ByteArray) (key : ByteArray) (t : Thing) (pv lw rv : Value) : Prop where
 c : RC9 h0 kv k av A
 th : ∀ h2, Chg [] h0 h2 → TH h2 (cellsT t pv lw rv) t
 t9 : T9 t
 ks : key.size ≤ 300
 az : ∀ s ∈ A, s.size ≤ 300
 al : A.length ≤ 20
end
end Go.Proofs.YtjnijlnmbjjgpaaGreatDoor
namespace Go.Proofs.YtjnijlnmbjjgpaaGreatDoor
open Go Go.Sx C
theorem lword_calls {h : Heap} {s : ByteArray} (hs : s.size < 4611686018427387904) : CallsH Tryz.prog 39 [.string s] h (Ret fun r h' => r = .string (up s) ∧ Chg [] h h') := by
 obtain ⟨⟨bs⟩⟩ := s
 have hs : bs.length < 4611686018427387904 := hs
 refine f39_calls (by simp) ?_
 intro c b h1 hc g
 have hc : bs.length ≤ c := hc
 obtain ⟨tail, ht⟩ : ∃ tail, tail = List.replicate (c - bs.length) (Value.int .u8 0) := ⟨_, rfl⟩
 have gb : BlkW h1 b (cellB bs ++ tail) := by rw [ht]; exact g.blk
 refine loop_intro (fun q : Nat => [(3, .slice (some ⟨b, 0, none⟩) bs.length c), (8, .slice (some ⟨b, 0, none⟩) bs.length c), (9, .int .i64 bs.length), (10, .int .i64 q)]) (fun q h' => q ≤ bs.length ∧ BlkW h' b (cellB (upTo bs q) ++ tail) ∧ h'.size = h1.size ∧ ∀ k, k ≠ b → h'[k]? = h1[k]?) (fun q => bs.length - q) 0 ⟨rfl, rfl, rfl, rfl, trivial⟩ ⟨Nat.zero_le _, by rw [upTo_zero]; exact gb, rfl, fun _ _ => rfl⟩ ?_
 rintro q h2 ⟨hq, hb, hsz, hold⟩
 have next : ∀ {h3 : Heap}, q < bs.length → BlkW h3 b (cellB (upTo bs (q + 1)) ++ tail) → h3.size = h1.size → (∀ k, k ≠ b → h3[k]? = h1[k]?) → q + 1 ≤ bs.length ∧ BlkW h3 b (cellB (upTo bs (q + 1)) ++ tail) ∧ h3.size = h1.size ∧ ∀ k, k ≠ b → h3[k]? = h1[k]? := fun a b c d => ⟨a, b, c, d⟩
 refine Ai rfl (Ai (fun hlt => ?_) (fun hge => ?_))
 ·have hlt : q < bs.length := by omega
  have cq := cell_q hb hlt
  refine Ai (by omega) (Ai (by omega) (Ei _ (Ai cq (Ai rfl (Ai (fun h97 => ?_) (fun hn => ?_))))))
  ·refine Ai rfl (Ai (fun h122 => ?_) (fun hn => ?_))
   ·refine Ai rfl (fun z hz => Ai rfl (fun z1 hz1 => ?_))
    have hz : z = (bs[q].toNat : Int) - 97 := by rw [hz]; exact wrap8 (by omega) (by omega)
    have hz1 : z1 = (upB bs[q]).toNat := by
     rw [upB_lo h97 h122, hz1, hz]
     have := wrap8 (x := (bs[q].toNat : Int) - 97 + 65) (by omega) (by omega)
     exact this.trans (by omega)
    refine Ai (by omega) (Ai (by omega) (Ei _ (Ai hb (Ai ?_ (Ai rfl (Ai (Go.Sx.ones1 rfl) fun h3 p => ?_))))))
    ·show 0 + q * 1 + 1 ≤ _
     rw [List.length_append, cellB_len, upTo_len]; omega
    ·refine Ai rfl (fun z2 hz2 => ?_)
     have hz2 := add_in hz2 (by omega) (by omega)
     subst hz2
     exact Ai rfl (Ei (q + 1) (Ai ⟨rfl, rfl, rfl, rfl, trivial⟩ (Ai (next hlt (put_q hlt hz1 p) (p.size.trans hsz) fun k hk => (p.old k hk).trans (hold k hk)) (by omega))))
   ·refine Ai rfl (fun z2 hz2 => ?_)
    have hz2 := add_in hz2 (by omega) (by omega)
    subst hz2
    exact Ai rfl (Ei (q + 1) (Ai ⟨rfl, rfl, rfl, rfl, trivial⟩ (Ai (next hlt (by rw [same_q hlt (upB_not fun hh => hn hh.2)]; exact hb) hsz hold) (by omega))))
  ·refine Ai rfl (fun z2 hz2 => ?_)
   have hz2 := add_in hz2 (by omega) (by omega)
   subst hz2
   exact Ai rfl (Ei (q + 1) (Ai ⟨rfl, rfl, rfl, rfl, trivial⟩ (Ai (next hlt (by rw [same_q hlt (upB_not fun hh => hn hh.1)]; exact hb) hsz hold) (by omega))))
 ·have hkl : q = bs.length := by omega
  subst hkl
  rw [upTo_all] at hb
  refine Ei (bs.map upB) (Ai (by simp) (Ai (cells_pre hb) (Ai rfl ?_)))
  refine ⟨by rw [hsz, g.size]; omega, fun k hk _ => ?_⟩
  have := g.id
  rw [hold k (by omega), g.old k hk]
def cmd9 : List (List UInt8 × Nat) := [
 ([72, 83, 69, 84], 81),
 ([72, 71, 69, 84], 82),
 ([72, 68, 69, 76], 83),
 ([72, 76, 69, 78], 84),
 ([72, 71, 69, 84, 65, 76, 76], 85),
 ([72, 73, 78, 67, 82, 66, 89], 86),
 ([76, 80, 85, 83, 72], 87),
 ([82, 80, 85, 83, 72], 88),
 ([76, 80, 79, 80], 89),
 ([82, 80, 79, 80], 90),
 ([76, 76, 69, 78], 91),
 ([76, 73, 78, 68, 69, 88], 92),
 ([76, 82, 65, 78, 71, 69], 93),
 ([76, 83, 69, 84], 94),
 ([83, 65, 68, 68], 95),
 ([83, 82, 69, 77], 96),
 ([83, 73, 83, 77, 69, 77, 66, 69, 82], 97),
 ([83, 67, 65, 82, 68], 98),
 ([83, 77, 69, 77, 66, 69, 82, 83], 99),
 ([83, 73, 78, 84, 69, 82], 100),
 ([90, 65, 68, 68], 101),
 ([90, 82, 69, 77], 102),
 ([90, 83, 67, 79, 82, 69], 103),
 ([90, 73, 78, 67, 82, 66, 89], 104),
 ([90, 67, 65, 82, 68], 105),
 ([90, 82, 65, 78, 75], 106),
 ([90, 82, 65, 78, 71, 69], 107),
 ([90, 82, 65, 78, 71, 69, 66, 89, 83, 67, 79, 82, 69], 108)]
def look9 : List (List UInt8 × Nat) → ByteArray → Option Nat
 |[], _ => none
 |(n, g) :: l, w => if w = ofB n then some g else look9 l w
def Found9 (W : ByteArray) (ms : List MapEntry) : Option Nat → Prop
 |some g => ∃ j, mfind (.string W) ms 0 = some (j, .func (.func g) #[] #[])
 |none => mfind (.string W) ms 0 = none
def Cm9 : List MapEntry → List (List UInt8 × Nat) → Prop
 |[], [] => True
 |e :: es, (n, g) :: ns => e.key = .string (ofB n) ∧ e.val = .func (.func g) #[] #[] ∧ Cm9 es ns
 |_, _ => False
theorem Cm9.snoc : ∀ {es : List MapEntry} {ns : List (List UInt8 × Nat)} {n : List UInt8} {g c : Nat}, Cm9 es ns → Cm9 (es ++ [{ key := .string (ofB n), val := .func (.func g) #[] #[], born := c }]) (ns ++ [(n, g)])
 |[], [], _, _, _, _ => ⟨rfl, rfl, trivial⟩
 |_ :: _, (_, _) :: _, _, _, _, ⟨h1, h2, h3⟩ => ⟨h1, h2, Cm9.snoc h3⟩
 |[], _ :: _, _, _, _, h => h.elim
 |_ :: _, [], _, _, _, h => h.elim
theorem Cm9.keys : ∀ {es : List MapEntry} {ns : List (List UInt8 × Nat)}, Cm9 es ns → KeysF es (ns.map Prod.fst)
 |[], [], _ => rfl
 |e :: es, (n, g) :: ns, ⟨h1, _, h3⟩ => by
  have := Cm9.keys h3
  unfold KeysF at this ⊢
  simp [h1, this]
 |[], _ :: _, h => h.elim
 |_ :: _, [], h => h.elim
theorem Cm9.found (W : ByteArray) : ∀ {es : List MapEntry} {ns : List (List UInt8 × Nat)} (i : Nat), Cm9 es ns → (match look9 ns W with | some g => ∃ j, mfind (.string W) es i = some (j, .func (.func g) #[] #[]) | none => mfind (.string W) es i = none)
 |[], [], _, _ => rfl
 |e :: es, (n, g) :: ns, i, ⟨h1, h2, h3⟩ => by
  have ih := Cm9.found W (i + 1) h3
  unfold look9
  by_cases hw : W = ofB n
  ·rw [if_pos hw]
   refine ⟨i, ?_⟩
   unfold mfind
   rw [h1, hw, if_pos (sameBits_refl (k := .str) rfl), h2]
  ·rw [if_neg hw]
   have hn : ¬ (Instr.sameBits 10000 (.string W) e.key = true) := fun hs => by
    have := sameBits_eq (k := .str) (by rfl) (by rw [h1]; rfl) hs
    rw [h1] at this
    simp at this
    exact hw this
   cases hl : look9 ns W with
   |none =>
    rw [hl] at ih
    show mfind _ (e :: es) i = none
    unfold mfind
    rw [if_neg hn]; exact ih
   |some g2 =>
    rw [hl] at ih
    obtain ⟨j, h7⟩ := ih
    refine ⟨j, ?_⟩
    unfold mfind
    rw [if_neg hn]; exact h7
 |[], _ :: _, _, h => h.elim
 |_ :: _, [], _, h => h.elim
def mupO (p : List UInt8 × Nat) : SOper := ⟨none, none, .mup .str (.tmp 1) (.const (.string (ofB p.1))) (.func p.2)⟩
theorem mup_go {Qp : List PanicEntry → Heap → Prop} {K : Env → Heap → Prop} {h0 : Heap} {mb : Nat} {σ : Env} {rest : List SOper} (hσ : σ 1 = some (.map (some mb))) (k : ∀ h' es c, St [] h0 h' [.m mb es c] → Cm9 es cmd9 → sops Tryz.prog Qp K rest σ h') :
  ∀ (ns pre : List (List UInt8 × Nat)) {h : Heap} {es : List MapEntry} {c : Nat}, pre ++ ns = cmd9 → St [] h0 h [.m mb es c] → Cm9 es pre → ((pre ++ ns).map Prod.fst).Nodup → sops Tryz.prog Qp K (ns.map mupO ++ rest) σ h
 |[], pre, h, es, c, e, w, cm, _ => by
  simp only [List.append_nil] at e
  subst e
  exact k h es c w cm
 |(n, g) :: ns, pre, h, es, c, e, w, cm, hd => by
  have ky := cm.keys
  have hnot : n ∉ pre.map Prod.fst := by
   rw [List.map_append] at hd
   have := (List.nodup_append.1 hd).2.2
   intro hm
   exact this n hm n (by simp) rfl
  show sopr Tryz.prog σ h (mupO (n, g)) (sops Tryz.prog Qp K (ns.map mupO ++ rest)) Qp
  simp only [mupO, sopr, sop, ev, hσ]
  refine Ai rfl (Ei es (Ei c (Ai (w.get 0 rfl) (Ai ky.fits ?_))))
  rw [ky.miss hnot]
  intro h' p
  have w : St [] h0 h' [.m mb _ _] := w.mput 0 rfl p
  exact mup_go hσ k ns (pre ++ [(n, g)]) (by rw [List.append_assoc]; exact e) w cm.snoc (by rw [List.append_assoc]; exact hd)
theorem cmd9_nodup : (cmd9.map Prod.fst).Nodup := by decide +kernel
theorem r1_eq : f38r1 = ⟨some 1, none, .mkm⟩ :: ((cmd9.map mupO) ++ [⟨some 2, none, .mv (.tmp 1)⟩, ⟨some 0, none, .mv (.tmp 2)⟩]) := by kernel_rfl
theorem ops_go {P : Program} {l : List SOper} {c : SCode} {Q : Post} {σ : Env} {ds : List Deferred} {h : Heap} (hs : sops P (fun ch h' => thenQ (swp P c Q) Q (.panic ch) (hide l σ) ds h') (fun σ' h' => thenQ (swp P c Q) Q .normal σ' ds h') l σ h) : swp P (.seq (.ops l) c) Q σ ds h := hs
theorem cmds9_calls {h : Heap} : CallsH Tryz.prog 38 [] h (Ret fun r h' => Chg [] h h' ∧ ∃ mb es c, r = .map (some mb) ∧ MapB h' mb es c ∧ (∀ e ∈ es, fits .str e.key = true) ∧ ∀ W, Found9 W es (look9 cmd9 W)) := by
 refine f38_calls (by simp) ?_
 refine mv_go (v := .map none) rfl ?_
 refine ops_go ?_
 rw [r1_eq]
 intro mb h1 g1
 have w := (St.start h).newm g1
 refine mup_go rfl (fun h' es c w cm => ?_) cmd9 [] rfl w trivial cmd9_nodup
 refine ⟨w.chg, mb, es, c, rfl, w.get 0 rfl, cm.keys.fits, fun W => ?_⟩
 have := Cm9.found W 0 cm
 unfold Found9
 exact this
theorem do9_D : SoundD Tryz.prog 20 46 f20 [.cn 6 4, .c1 7, .t 8] := soundD_of (fl := true) mixed Tryz.func20 rfl (by kernel_rfl) (by kernel_rfl) (by kernel_rfl)
theorem dodef9_F : SoundF Tryz.prog 40 14 f40 [] := soundF_of (fl := true) mixed Tryz.func40 rfl (by kernel_rfl) (by kernel_rfl) (by kernel_rfl)
theorem dodef9_calm {h : Heap} {b6 b7 : Nat} : DefH Tryz.prog 40 [ptr b6, ptr b7] .returning h fun e u' h' => (∃ v, e = .returned v) ∧ u' = .returning ∧ h' = h := by
 refine dodef9_F (by simp) ?_
 exact ⟨rfl, ⟨_, rfl⟩, rfl, rfl⟩
theorem BFail9_calls {h : Heap} {s : ByteArray} : CallsH Tryz.prog 41 [.string s] h (Ret fun r h' => r = repV 2 0 s ∧ Chg [] h h') := by
 refine f41_calls (by simp) ?_
 intro b h1 g1
 refine Ei _ (Ai g1.blk (Ai (by decide) (Ai rfl (Ai (repV_ones 2 0 s) ?_))))
 intro h2 p2
 have g2 := g1.put p2
 exact ⟨_, rfl, cells_blk g2.blk, rfl, g2.chg⟩
theorem dodef9_stop {h : Heap} {b6 b7 : Nat} {why : ByteArray} {r4 : List Value} {lv : Value} (B6 : Blk h b6 r4) (hr : r4.length = 4) (B7 : Blk h b7 [lv]) (hne : b6 ≠ b7) :
  DefH Tryz.prog 40 [ptr b6, ptr b7] (.panicking (stop9 why)) h fun e u' h' => (∃ v, e = .returned v) ∧ u' = .panicking [{ v := .iface 92 (.agg #[.string why]), recovered := true }] ∧
   Blk h' b6 [.int .i64 2, .int .i64 0, .string why, .slice none 0 0] ∧ Blk h' b7 [.slice none 0 0] ∧ Chg [b6, b7] h h' := by
 refine dodef9_F (by simp) ?_
 have l6 := B6.lt
 have l7 := B7.lt
 refine Ai (fun _ => ?_) (fun hne => absurd rfl hne)
 intro b3 h1 g1
 refine Ei _ (Ai g1.blk (Ai (by decide) (Ai rfl (Ai (ones1 rfl) ?_))))
 intro h2 p2
 have g2 := g1.put p2
 have B3 : Blk h2 b3 [.string why] := p2.blk
 refine Ei _ (Ai (cell_blk B3 rfl) ?_)
 refine call_ret BFail9_calls ?_
 rintro _ h3 ⟨rfl, c3⟩
 have c03 := g2.chg.nil c3
 refine Ei _ (Ai (B6.chg c03 (by simp)) (Ai (by rw [hr]; decide) (Ai rfl (Ai (repV_ones 2 0 why) ?_))))
 intro h4 p4
 have B64 : Blk h4 b6 [.int .i64 2, .int .i64 0, .string why, .slice none 0 0] := by
  have h9 : Blk h4 b6 (splice r4 0 [.int .i64 2, .int .i64 0, .string why, .slice none 0 0]) := p4.blk
  rw [four hr rfl] at h9
  exact h9
 refine Ei _ (Ai ((B7.chg c03 (by simp)).chg p4.chg (by simp; omega)) (Ai (by simp) (Ai rfl (Ai (ones1 rfl) ?_))))
 intro h5 p5
 have B75 : Blk h5 b7 [.slice none 0 0] := p5.blk
 have c5 : Chg [b6, b7] h h5 := ((c03.mono (by simp)).trans p4.chg (fun _ hx => hx) (fun x hx _ => by simp at hx; simp [hx])).trans p5.chg (fun _ hx => hx) (fun x hx _ => by simp at hx; simp [hx])
 exact ⟨rfl, ⟨_, rfl⟩, rfl, B64.chg p5.chg (by simp; omega), B75, c5⟩
theorem do9_calls {h : Heap} {kb sb mb c g : Nat} {now : Int} {av : Value} {w : ByteArray} {A : List ByteArray} {m : List KI} {res : Res} (kr : KR h kb sb mb c m)
  (hA : SL encS h av (w :: A)) (_hl : (w :: A).length < 4611686018427387904) (hz : w.size < 4611686018427387904) (hno : look9 cmd9 (up w) = some g)
  (hf : ∀ h1 ab av', (∀ h', Chg [] h h' → SL encS h' av' A) → As h h1 (c0 ab kb now av') → CallsH Tryz.prog g [ptr ab] h1 (Cmd9 h h1 ab kb now av' res)) :
  CallsH Tryz.prog 20 [ptr kb, .int .i64 now, av] h (Ret (DoR h res)) := by
 obtain ⟨a, cc, rfl, hcc⟩ := hA.form
 obtain ⟨bb, oo, rfl⟩ := hA.addr (by simp)
 refine do9_D (by simp) ?_
 intro b6 h1 g1
 have w1 := (St.start h).new g1
 intro b7 h2 g2
 have w2 := w1.new g2
 have c2 : Chg [] h h2 := w2.chg
 refine Ai rfl (Ai (fun h0 => absurd h0 (by simp; omega)) (fun _ => ?_))
 refine callp (same_nil (kr.ext c2).ks) ?_
 have hA2 := hA.ext c2
 have hc0 := hA2.cells encS_len (i := 0) (x := w) (by simp)
 refine Ai (by decide) (Ai (by simp) (Ei _ (Ai (by simpa using hc0 0 _ rfl) ?_)))
 refine callq_ret cmds9_calls ?_
 rintro _ h3 ⟨c3, b, es, c', rfl, hm, hfit, hfd⟩
 refine Ai c3.ext ?_
 refine callq_ret (lword_calls hz) ?_
 rintro _ h4 ⟨rfl, c4⟩
 refine Ai c4.ext ?_
 refine Ai rfl (Ei es (Ei c' (Ai (hm.chg c4 (by simp)) (Ai hfit ?_))))
 have hfind := hfd (up w)
 rw [hno] at hfind
 obtain ⟨i, hfind⟩ := hfind
 rw [hfind]
 have w4 := (w2.ext c3).ext c4
 refine Ai (by decide) (Ai (by simp only [List.length_cons]; omega) (Ai (by omega) ?_))
 refine sl_slc (lo := 1) (hi := (w :: A).length) encS_len (hA.ext w4.chg) (by simp) (Nat.le_refl _) fun v1 hv1 => ?_
 have e1 : ((w :: A).drop 1).take ((w :: A).length - 1) = A := by simp
 rw [e1] at hv1
 obtain ⟨a1, cc1, rfl, hcc1⟩ := (hv1 h hA).form
 intro ab h5 g5
 have w5 : St [] h h5 [.b ab (cellsC zeroT nilV nilV nilV false kb now noText (.slice a1 A.length cc1) nilV), .b b7 [.slice none 0 0], .b b6 [.int .i64 0, .int .i64 0, .string ⟨#[]⟩, .slice none 0 0]] := w4.new g5
 have z4 := w4.chg.size
 have i5 := g5.id
 have w6 : St [] h h5 [c0 ab kb now (.slice a1 A.length cc1), .b b7 [.slice none 0 0], .b b6 [.int .i64 0, .int .i64 0, .string ⟨#[]⟩, .slice none 0 0]] :=
  w5.set 0 rfl (Chg.refl _) (by simp) ⟨w5.get 0 rfl, OL.nil, ⟨_, _, _, rfl, SL.nil, SL.nil, SL.nil⟩, by simp [bl3, vblk, ablk], by simp [vblk, ablk], by simp [bl3, vblk, ablk], by simp [vblk, ablk]⟩ (fun b hb => by
   simp [cE, En.fp, bl3, vblk, ablk] at hb
   exact .inl (by simp [En.fp, hb]))
 refine call_out9 (hf h5 ab _ (fun h' hc => hv1 h' (hA.ext hc)) (w6.as 0 rfl)) ?_ ?_
 ·rintro v h6 ⟨q, E, key, t, is, pv, lw, rv, lv, he, ⟨ra, rn, rc, rfl, sl, fr⟩, _, o6⟩
  subst he
  have w := w6.own 0 rfl o6
  obtain ⟨la, lc, rfl⟩ := w.cform 0 rfl
  have hi6 := g1.id
  have hi7 := g2.id
  have z1 := g1.size
  have z2 := g2.size
  have z3 := (c3.nil c4).size
  have z5 := g5.size
  have keep : ∀ {h7 h8 : Heap} {k : Nat}, k < h5.size → SL encQ h7 (.slice ra rn rc) q.l → Chg [k] h7 h8 → SL encQ h8 (.slice ra rn rc) q.l := fun hk sl hc => sl.chg hc fun b hb => by have := fr b hb; simp; omega
  have l6 : b6 < h5.size := by omega
  have l7 : b7 < h5.size := by omega
  refine w.st2 2 rfl rfl rfl rfl fun h7 w7 k7 => ?_
  have sl := keep l6 sl k7
  refine w7.ldw 2 rfl rfl ?_
  refine Ai ?_ ?_
  ·refine w7.ldc 0 rfl rfl ?_
   refine w7.st2 2 rfl rfl rfl rfl fun h8 w8 k8 => ?_
   refine w8.st2 1 rfl rfl rfl rfl fun h9 w9 k9 => ?_
   have sl := keep l7 (keep l6 sl k8) k9
   refine Ai (by simp) (dodef9_calm.mono ?_)
   rintro e u' h' ⟨⟨v, rfl⟩, rfl, rfl⟩
   exact ⟨_, rfl, cells_blk (w9.get 2 rfl), _, cell_blk (w9.get 1 rfl) rfl, w9.chg, _, _, rfl, ⟨ra, rn, rc, rfl, sl, fun _ _ => Nat.zero_le _⟩, (w9.get 0 rfl).2.1.sl, fun b hb => by
    rcases (w9.ents 0 _ rfl).2 b (List.mem_cons_of_mem _ (List.mem_append_left _ hb)) with h1 | h1
    ·cases h1
    ·exact h1⟩
  ·refine w7.st2 2 rfl rfl rfl rfl fun h8 w8 k8 => ?_
   refine w8.ldc 0 rfl rfl ?_
   refine w8.st2 1 rfl rfl rfl rfl fun h9 w9 k9 => ?_
   have sl := keep l7 (keep l6 sl k8) k9
   refine Ai (by simp) (dodef9_calm.mono ?_)
   rintro e u' h' ⟨⟨v, rfl⟩, rfl, rfl⟩
   exact ⟨_, rfl, cells_blk (w9.get 2 rfl), _, cell_blk (w9.get 1 rfl) rfl, w9.chg, _, _, rfl, ⟨ra, rn, rc, rfl, sl, fun _ _ => Nat.zero_le _⟩, (w9.get 0 rfl).2.1.sl, fun b hb => by
    rcases (w9.ents 0 _ rfl).2 b (List.mem_cons_of_mem _ (List.mem_append_left _ hb)) with h1 | h1
    ·cases h1
    ·exact h1⟩
 ·rintro why h6 ⟨he, c6⟩
  subst he
  have w := w6.gone 0 rfl c6 (fun k hk => .inl hk)
  have hi6 := g1.id
  have hi7 := g2.id
  have z1 := g1.size
  refine Ai (by simp) ((dodef9_stop (w.get 2 rfl) rfl (w.get 1 rfl) (w.ne 2 1 rfl rfl (by decide))).mono ?_)
  rintro e u' h' ⟨⟨v, rfl⟩, rfl, B6', B7', c7⟩
  exact ⟨_, rfl, cells_blk B6', _, cell_blk B7' rfl, w.chg.fresh c7 (by simp; omega), rfl⟩
def BoundR9 (N : ByteArray) (lo hi kd wh : Int) : Prop := ∀ h, CallsH Tryz.prog 55 [.string N] h (Ret fun r h' => r = .tuple #[.int .i64 lo, .int .i64 hi, .int .i64 kd, .int .i64 wh, .bool true] ∧ h' = h)
def qHSET : ByteArray := ⟨#[72, 83, 69, 84]⟩
def qSADD : ByteArray := ⟨#[83, 65, 68, 68]⟩
def qSREM : ByteArray := ⟨#[83, 82, 69, 77]⟩
def qSISMEMBER : ByteArray := ⟨#[83, 73, 83, 77, 69, 77, 66, 69, 82]⟩
def qSCARD : ByteArray := ⟨#[83, 67, 65, 82, 68]⟩
def qSMEMBERS : ByteArray := ⟨#[83, 77, 69, 77, 66, 69, 82, 83]⟩
def qSINTER : ByteArray := ⟨#[83, 73, 78, 84, 69, 82]⟩
def qZADD : ByteArray := ⟨#[90, 65, 68, 68]⟩
def need9 (wh : Int) (i : Nat) : Prop := (wh = 4 ∧ i % 2 = 1) ∨ wh = 3 ∨ (wh = i ∧ wh < 3)
section
variable {rest : List Value} {h0 h h1 h' : Heap} {xb i : Nat} {now n wh kd lo hi : Int} {kv av lv : Value} {k : List RX} {A l : List ByteArray} {L : List Eff} {why key N : ByteArray} {M : List En} {T : List Nat} {e e1 e2 : En} {res : Res}
theorem RxO9.trans {h2 : Heap} (a : RxO9 h0 h e h1 e1) (b : RxO9 h0 h1 e1 h2 e2) : RxO9 h0 h e h2 e2 := by
 obtain ⟨a1, a2⟩ := a
 obtain ⟨b1, b2⟩ := b
 have hz := a2.chg.size
 refine ⟨b1, b2.at_, a2.chg.trans b2.chg (fun b hb => hb) (fun b hb hlt => ?_), fun b hb => ?_⟩
 ·rcases a2.fresh b hb with h | h
  ·exact h
  ·omega
 ·rcases b2.fresh b hb with h | h
  ·exact a2.fresh b h
  ·exact .inr (by omega)
set_option maxHeartbeats 1000000 in
theorem rnums9_calls (c : RC9 h0 kv k av A) (x : As h0 h (rxE9 xb rest kv now av lv L noText)) (hA : A.length ≤ 20) (hz : ∀ s ∈ A, s.size ≤ 300) : CallsH Tryz.prog 57 [ptr xb, .int .i64 wh] h
  (Ret fun r h' => ((∀ j, 1 ≤ j → j < A.length → need9 wh j → ∃ m, (A[j]?.bind numOf) = some m) ∧ r = .bool true ∧ RxO9 h0 h (rxE9 xb rest kv now av lv L noText) h' (rxE9 xb rest kv now av lv L noText)) ∨
   ((∃ j, 1 ≤ j ∧ j < A.length ∧ need9 wh j ∧ (A[j]?.bind numOf) = none) ∧ r = .bool false ∧ RxO9 h0 h (rxE9 xb rest kv now av lv L noText) h' (rxE9 xb rest kv now av lv L wNum))) := by
 obtain ⟨a, cc, rfl⟩ := c.argN
 refine f57_calls (by simp) ?_
 refine loop_intro (fun i : Nat => [(0, ptr xb), (1, .int .i64 wh), (4, .bool false), (5, .int .i64 i)])
  (fun i h' => 1 ≤ i ∧ (i ≤ A.length ∨ i = 1) ∧ (∀ j, 1 ≤ j → j < i → need9 wh j → ∃ m, (A[j]?.bind numOf) = some m) ∧ RxO9 h0 h (rxE9 xb rest kv now (.slice a A.length cc) lv L noText) h' (rxE9 xb rest kv now (.slice a A.length cc) lv L noText))
  (fun i => A.length + 1 - i) 1 ⟨rfl, rfl, rfl, rfl, trivial⟩ ⟨Nat.le_refl _, .inr rfl, fun j h1 h2 => absurd h2 (by omega), RxO9.refl x (Chg.refl _)⟩ ?_
 rintro i h4 ⟨hi1, hil, hall, rx⟩
 have w := rx.1.st
 refine w.ldr9 0 rfl rfl ?_
 refine Ai rfl (Ai (fun hlt => ?_) (fun hge => ?_))
 ·have hlt : i < A.length := by omega
  refine Ai rfl (Ai (fun q1 => ?_) (fun q1 => ?_))
  ·refine Ai rfl (Ai (by decide) (fun z hz' => ?_))
   have hz' : z = ((i % 2 : Nat) : Int) := by rw [hz']; exact (Int.ofNat_tmod i 2).symm
   subst hz'
   refine Ai rfl (Ai (fun q2 => ?_) (fun q2 => ?_))
   ·have hneed : need9 wh i := .inl ⟨q1, by omega⟩
    refine call_ret (rnumA9_calls c rx.1 (List.getElem?_eq_getElem hlt) (by have := hz _ (List.getElem_mem hlt); omega)) ?_
    rintro _ h5 ⟨rfl, r5⟩
    cases hn : numOf A[i] with
    |none =>
     rw [hn] at r5
     exact .inr ⟨⟨i, by omega, hlt, hneed, by rw [List.getElem?_eq_getElem hlt]; exact hn⟩, rfl, rx.trans r5⟩
    |some m =>
     rw [hn] at r5
     have rx := rx.trans r5
     refine Ai rfl (fun z hz => ?_)
     have hz := add_in hz (by omega) (by omega)
     subst hz
     refine Ai rfl (Ei (i + 1) (Ai ⟨rfl, rfl, rfl, rfl, trivial⟩ (Ai ⟨by omega, .inl hlt, fun j h1 h2 => ?_, rx⟩ (by omega))))
     rcases Nat.lt_or_ge j i with h3 | h3
     ·exact hall j h1 h3
     ·obtain rfl : j = i := by omega
      exact fun _ => by rw [List.getElem?_eq_getElem hlt]; exact ⟨m, hn⟩
   ·refine Ai rfl (Ai (fun q3 => absurd q3 (by omega)) (fun q3 => ?_))
    refine Ai rfl (Ai (fun q4 => ?_) (fun q4 => ?_))
    ·refine Ai rfl (Ai (fun q5 => absurd q5 (by omega)) (fun q5 => ?_))
     refine Ai rfl (fun z hz => ?_)
     have hz := add_in hz (by omega) (by omega)
     subst hz
     refine Ai rfl (Ei (i + 1) (Ai ⟨rfl, rfl, rfl, rfl, trivial⟩ (Ai ⟨by omega, .inl hlt, fun j h1 h2 => ?_, rx⟩ (by omega))))
     rcases Nat.lt_or_ge j i with h3 | h3
     ·exact hall j h1 h3
     ·obtain rfl : j = i := by omega
      exact fun hn => by unfold need9 at hn; omega
    ·refine Ai rfl (fun z hz => ?_)
     have hz := add_in hz (by omega) (by omega)
     subst hz
     refine Ai rfl (Ei (i + 1) (Ai ⟨rfl, rfl, rfl, rfl, trivial⟩ (Ai ⟨by omega, .inl hlt, fun j h1 h2 => ?_, rx⟩ (by omega))))
     rcases Nat.lt_or_ge j i with h3 | h3
     ·exact hall j h1 h3
     ·obtain rfl : j = i := by omega
      exact fun hn => by unfold need9 at hn; omega
  ·refine Ai rfl (Ai (fun q3 => ?_) (fun q3 => ?_))
   ·have hneed : need9 wh i := .inr (.inl q3)
    refine call_ret (rnumA9_calls c rx.1 (List.getElem?_eq_getElem hlt) (by have := hz _ (List.getElem_mem hlt); omega)) ?_
    rintro _ h5 ⟨rfl, r5⟩
    cases hn : numOf A[i] with
    |none =>
     rw [hn] at r5
     exact .inr ⟨⟨i, by omega, hlt, hneed, by rw [List.getElem?_eq_getElem hlt]; exact hn⟩, rfl, rx.trans r5⟩
    |some m =>
     rw [hn] at r5
     have rx := rx.trans r5
     refine Ai rfl (fun z hz => ?_)
     have hz := add_in hz (by omega) (by omega)
     subst hz
     refine Ai rfl (Ei (i + 1) (Ai ⟨rfl, rfl, rfl, rfl, trivial⟩ (Ai ⟨by omega, .inl hlt, fun j h1 h2 => ?_, rx⟩ (by omega))))
     rcases Nat.lt_or_ge j i with h3 | h3
     ·exact hall j h1 h3
     ·obtain rfl : j = i := by omega
      exact fun _ => by rw [List.getElem?_eq_getElem hlt]; exact ⟨m, hn⟩
   ·refine Ai rfl (Ai (fun q4 => ?_) (fun q4 => ?_))
    ·refine Ai rfl (Ai (fun q5 => ?_) (fun q5 => ?_))
     ·have hneed : need9 wh i := .inr (.inr ⟨q4, q5⟩)
      refine call_ret (rnumA9_calls c rx.1 (List.getElem?_eq_getElem hlt) (by have := hz _ (List.getElem_mem hlt); omega)) ?_
      rintro _ h5 ⟨rfl, r5⟩
      cases hn : numOf A[i] with
      |none =>
       rw [hn] at r5
       exact .inr ⟨⟨i, by omega, hlt, hneed, by rw [List.getElem?_eq_getElem hlt]; exact hn⟩, rfl, rx.trans r5⟩
      |some m =>
       rw [hn] at r5
       have rx := rx.trans r5
       refine Ai rfl (fun z hz => ?_)
       have hz := add_in hz (by omega) (by omega)
       subst hz
       refine Ai rfl (Ei (i + 1) (Ai ⟨rfl, rfl, rfl, rfl, trivial⟩ (Ai ⟨by omega, .inl hlt, fun j h1 h2 => ?_, rx⟩ (by omega))))
       rcases Nat.lt_or_ge j i with h3 | h3
       ·exact hall j h1 h3
       ·obtain rfl : j = i := by omega
        exact fun _ => by rw [List.getElem?_eq_getElem hlt]; exact ⟨m, hn⟩
     ·refine Ai rfl (fun z hz => ?_)
      have hz := add_in hz (by omega) (by omega)
      subst hz
      refine Ai rfl (Ei (i + 1) (Ai ⟨rfl, rfl, rfl, rfl, trivial⟩ (Ai ⟨by omega, .inl hlt, fun j h1 h2 => ?_, rx⟩ (by omega))))
      rcases Nat.lt_or_ge j i with h3 | h3
      ·exact hall j h1 h3
      ·obtain rfl : j = i := by omega
       exact fun hn => by unfold need9 at hn; omega
    ·refine Ai rfl (fun z hz => ?_)
     have hz := add_in hz (by omega) (by omega)
     subst hz
     refine Ai rfl (Ei (i + 1) (Ai ⟨rfl, rfl, rfl, rfl, trivial⟩ (Ai ⟨by omega, .inl hlt, fun j h1 h2 => ?_, rx⟩ (by omega))))
     rcases Nat.lt_or_ge j i with h3 | h3
     ·exact hall j h1 h3
     ·obtain rfl : j = i := by omega
      exact fun hn => by unfold need9 at hn; omega
 ·exact .inl ⟨fun j h1 h2 => hall j h1 (by omega), rfl, rx⟩
end
end Go.Proofs.YtjnijlnmbjjgpaaGreatDoor
namespace Go.Proofs.YtjnijlnmbjjgpaaGreatDoor
open Go Go.Sx C
def NumsOk (wh : Int) (A : List ByteArray) : Prop := ∀ j, 1 ≤ j → j < A.length → need9 wh j → ∃ m, (A[j]?.bind numOf) = some m
inductive RT where
 |mk (k i : Int) (s : ByteArray) (v : Value) (l : List RT)
def encT : RT → List Value
 |.mk k i s v _ => [.int .i64 k, .int .i64 i, .string s, v]
mutual
def RT.ok (h : Heap) : RT → Prop
 |.mk _ _ _ v l => SL encT h v l ∧ l.length < 4611686018427387904 ∧ RT.oks h l
def RT.oks (h : Heap) : List RT → Prop
 |[] => True
 |t :: l => t.ok h ∧ RT.oks h l
end
mutual
def RT.same : RT → RT → Bool
 |.mk k i s _ l, .mk k' i' s' _ m => decide (k = k') && decide (i = i') && decide (s = s') && RT.sames l m
def RT.sames : List RT → List RT → Bool
 |[], [] => true
 |x :: l, y :: m => x.same y && RT.sames l m
 |_, _ => false
end
mutual
theorem RT.ok.ext {h h' : Heap} (hc : Chg [] h h') : ∀ {t : RT}, t.ok h → t.ok h'
 |.mk _ _ _ _ _, ⟨h1, h2, h3⟩ => ⟨h1.ext hc, h2, RT.oks.ext hc h3⟩
theorem RT.oks.ext {h h' : Heap} (hc : Chg [] h h') : ∀ {l : List RT}, RT.oks h l → RT.oks h' l
 |[], _ => trivial
 |_ :: _, ⟨h1, h2⟩ => ⟨h1.ext hc, RT.oks.ext hc h2⟩
end
theorem RT.oks.mem {h : Heap} : ∀ {l : List RT}, RT.oks h l → ∀ t ∈ l, t.ok h
 |_ :: _, ⟨h1, h2⟩, t, ht => by
  rcases List.mem_cons.1 ht with rfl | ht
  ·exact h1
  ·exact RT.oks.mem h2 t ht
theorem encT_len : ∀ t, (encT t).length = 4
 |.mk _ _ _ _ _ => rfl
theorem sames_len : ∀ {l m : List RT}, l.length ≠ m.length → RT.sames l m = false
 |[], [], h => absurd rfl h
 |[], _ :: _, _ => by simp [RT.sames]
 |_ :: _, [], _ => by simp [RT.sames]
 |x :: l, y :: m, h => by
  simp only [RT.sames, Bool.and_eq_false_iff]
  exact .inr (sames_len (by simpa using h))
mutual
theorem RT.same_refl : ∀ t : RT, t.same t = true
 |.mk _ _ _ _ l => by simp [RT.same, RT.sames_refl l]
theorem RT.sames_refl : ∀ l : List RT, RT.sames l l = true
 |[] => by simp [RT.sames]
 |t :: l => by simp [RT.sames, RT.same_refl t, RT.sames_refl l]
end
theorem sames_drop {l m : List RT} {q : Nat} (hl : q < l.length) (hm : q < m.length) : RT.sames (l.drop q) (m.drop q) = (l[q].same m[q] && RT.sames (l.drop (q + 1)) (m.drop (q + 1))) := by
 rw [List.drop_eq_getElem_cons hl, List.drop_eq_getElem_cons hm, RT.sames]
theorem sizeOf_item {k i : Int} {s : ByteArray} {v : Value} {l : List RT} {q : Nat} (hq : q < l.length) : SizeOf.sizeOf l[q] < SizeOf.sizeOf (RT.mk k i s v l) := by
 have h1 := List.sizeOf_lt_of_mem (List.getElem_mem hq)
 rw [RT.mk.sizeOf_spec]; omega
theorem rsame_calls : ∀ (n : Nat) (a b : RT) (h : Heap), SizeOf.sizeOf a < n → a.ok h → b.ok h → CallsH Tryz.prog 27 [.agg ⟨encT a⟩, .agg ⟨encT b⟩] h (Ret fun r h' => r = .bool (a.same b) ∧ Chg [] h h')
 |0, _, _, _, hn, _, _ => absurd hn (by omega)
 |n + 1, .mk k i s v l, .mk k' i' s' v' m, h, hn, ⟨hv, hl, hls⟩, ⟨hu, hm, hms⟩ => by
  obtain ⟨x, c, rfl, hlc⟩ := hv.form
  obtain ⟨x', c', rfl, hmc⟩ := hu.form
  have hs : RT.same (.mk k i s (.slice x l.length c) l) (.mk k' i' s' (.slice x' m.length c') m) = (decide (k = k') && decide (i = i') && decide (s = s') && RT.sames l m) := by rw [RT.same]
  rw [hs]
  refine f27_calls (by simp) ?_
  intro b1 h1 g1 b2 h2 g2
  have B1 : Blk h2 b1 [.int .i64 k, .int .i64 i, .string s, .slice x l.length c] := Blk.chg g1.blk g2.chg (by simp)
  have B2 : Blk h2 b2 [.int .i64 k', .int .i64 i', .string s', .slice x' m.length c'] := g2.blk
  have ch : Chg [] h h2 := g1.chg.nil g2.chg
  refine Ei _ (Ai (cell_blk B1 rfl) (Ei _ (Ai (cell_blk B2 rfl) (Ai rfl (Ai (fun hne => ?_) (fun he => ?_))))))
  ·exact Ai (by rw [decide_eq_false hne]; rfl) ch
  have he : k = k' := Classical.not_not.1 he
  refine Ei _ (Ai (cell_blk B1 rfl) (Ei _ (Ai (cell_blk B2 rfl) (Ai rfl (Ai (fun hne => ?_) (fun he2 => ?_))))))
  ·exact Ai (by rw [decide_eq_false hne, Bool.and_false]; rfl) ch
  have he2 : i = i' := Classical.not_not.1 he2
  refine Ei _ (Ai (cell_blk B1 rfl) (Ei _ (Ai (cell_blk B2 rfl) (Ai (fun hne => ?_) (fun he3 => ?_)))))
  ·exact Ai (by rw [decide_eq_false hne, Bool.and_false]; rfl) ch
  have he3 : s = s' := Classical.not_not.1 he3
  rw [decide_eq_true he, decide_eq_true he2, decide_eq_true he3, Bool.true_and, Bool.true_and, Bool.true_and]
  refine Ei _ (Ai (cell_blk B1 rfl) (Ei _ (Ai (cell_blk B2 rfl) (Ai rfl (Ai (fun hne => ?_) (fun he4 => ?_))))))
  ·exact Ai (by rw [sames_len (by omega)]; rfl) ch
  have he4 : l.length = m.length := by omega
  clear hs he he2 he3 g1 g2
  refine loop_intro (fun q : Nat => [(2, .pointer (some ⟨b1, 0, none⟩)), (3, .pointer (some ⟨b2, 0, none⟩)), (5, .int .i64 q)]) (fun q h' => q ≤ l.length ∧ Chg [] h2 h' ∧ RT.sames l m = RT.sames (l.drop q) (m.drop q)) (fun q => l.length - q) 0 ⟨rfl, rfl, rfl, trivial⟩ ⟨Nat.zero_le _, Chg.refl _, rfl⟩ ?_
  rintro q h3 ⟨hq, hc3, hr⟩
  have C1 := B1.chg hc3 (by simp)
  have C2 := B2.chg hc3 (by simp)
  refine Ei _ (Ai (cell_blk C1 rfl) (Ai rfl (Ai (fun hlt => ?_) (fun hge => ?_))))
  ·have hlt : q < l.length := by omega
   have hltm : q < m.length := by omega
   have hch := ch.nil hc3
   obtain ⟨b, o, rfl⟩ := hv.addr (by omega)
   obtain ⟨b', o', rfl⟩ := hu.addr (by omega)
   have hcs := (hv.ext hch).cells encT_len (i := q) (x := l[q]) (by simp [hlt])
   have hds := (hu.ext hch).cells encT_len (i := q) (x := m[q]) (by simp [hltm])
   refine Ei _ (Ai (cell_blk C1 rfl) ?_)
   refine Ai (by omega) (Ai (by omega) (Ei (encT l[q]) (Ai (encT_len _) (Ai hcs ?_))))
   refine Ei _ (Ai (cell_blk C2 rfl) ?_)
   refine Ai (by omega) (Ai (by omega) (Ei (encT m[q]) (Ai (encT_len _) (Ai hds ?_))))
   refine call_ret (rsame_calls n l[q] m[q] h3 (by have := sizeOf_item (k := k) (i := i) (s := s) (v := .slice (some ⟨b, o, none⟩) l.length c) hlt; omega) ((hls.mem _ (List.getElem_mem hlt)).ext hch) ((hms.mem _ (List.getElem_mem hltm)).ext hch)) ?_
   rintro r h4 ⟨hrr, hc4⟩
   rw [sames_drop hlt hltm] at hr
   cases hsm : l[q].same m[q] with
   |false =>
    rw [hsm] at hrr hr
    subst hrr
    exact Ai (by rw [hr]; rfl) (hch.nil hc4)
   |true =>
    rw [hsm] at hrr hr
    subst hrr
    refine Ai rfl (fun z hz => ?_)
    have hz := add_in hz (by omega) (by omega)
    subst hz
    refine Ai rfl (Ei (q + 1) (Ai ⟨rfl, rfl, rfl, trivial⟩ (Ai ⟨by omega, hc3.nil hc4, by rw [hr, Bool.true_and]⟩ (by omega))))
  ·have hkl : q = l.length := by omega
   subst hkl
   rw [List.drop_length, he4, List.drop_length, RT.sames] at hr
   exact Ai (by rw [hr]; rfl) (ch.nil hc3)
structure FitE (e : Eff) (r : Rule) : Prop where
 rule : ruleR e.op = some r
 name : r.name = false → e.name = noText
 text : r.text = false → e.text = noText
 num : r.number = false → e.num = 0
 key : e.key.size ≤ 1048576
 nsz : e.name.size ≤ 1048576
 tsz : e.text.size ≤ 1048576
section
variable {S : Space} {k n key : ByteArray} {now kd : Int} {t : Thing} {e : Eff} {r : Rule} {E : List Eff}
theorem FitE.h1 (f : FitE e r) : ¬ ((r.name = false ∧ e.name ≠ noText) ∨ (r.text = false ∧ e.text ≠ noText) ∨ (r.number = false ∧ e.num ≠ 0)) := by
 rintro (⟨h, h2⟩ | ⟨h, h2⟩ | ⟨h, h2⟩)
 ·exact h2 (f.name h)
 ·exact h2 (f.text h)
 ·exact h2 (f.num h)
theorem FitE.h2 (f : FitE e r) : ¬ (1048576 < e.key.size ∨ 1048576 < e.name.size ∨ 1048576 < e.text.size) := by
 have := f.key; have := f.nsz; have := f.tsz
 omega
theorem FitE.is (f : FitE e r) {full : Bool} (hk : r.kind ≠ 0 → t.kind = r.kind) : oneF (some t) e full = endF (doneT t e) true full :=
 oneF_some f.rule f.h1 f.h2 (fun h => h.2 (hk h.1))
theorem FitE.makes (f : FitE e r) {full : Bool} (hm : r.makes = true) : oneF none e full = endF (doneT { zeroT with kind := r.kind } e) false full :=
 oneF_none f.rule f.h1 f.h2 (by rw [hm]; decide)
structure PutE (e : Eff) (kd : Int) : Prop where
 fit : ∃ r, FitE e r ∧ r.kind = kd ∧ r.makes = true
 done : ∀ t, ∃ t', doneT t e = (t', 0) ∧ t'.kind = t.kind ∧ countT t' ≠ 0 ∧ countT t' ≤ countT t + 1
theorem fate_puts (p : PutE e kd) (hl : S.length < 65536) (hf : ∀ t, findS S e.key = some t → t.kind = kd ∧ countT t < 65536) :
  ∃ t', fateS S e = .put t' ∧ t'.kind = kd ∧ countT t' ≤ ((findS S e.key).map countT).getD 0 + 1 := by
 obtain ⟨r, f, rk, rm⟩ := p.fit
 have hfull : decide (65536 ≤ S.length) = false := decide_eq_false (by omega)
 have fin : ∀ {t' : Thing} {b : Bool}, countT t' ≠ 0 → countT t' ≤ 65536 → endF (t', 0) b false = .put t' := fun {t' b} h0 h1 => by
  unfold endF
  rw [if_neg (fun h => h rfl), if_neg (fun h => h0 h.2), if_neg]
  rintro (h | ⟨_, h⟩)
  ·have h : 65536 < countT t' := h
   omega
  ·cases h
 unfold fateS
 rw [hfull]
 cases hg : findS S e.key with
 |none =>
  obtain ⟨t', h1, h2, h3, h4⟩ := p.done { zeroT with kind := r.kind }
  have h4 : countT t' ≤ 0 + 1 := h4
  refine ⟨t', ?_, by rw [h2]; exact rk, h4⟩
  rw [f.makes rm, h1]
  exact fin h3 (by omega)
 |some t =>
  obtain ⟨h5, h6⟩ := hf t hg
  obtain ⟨t', h1, h2, h3, h4⟩ := p.done t
  refine ⟨t', ?_, by rw [h2]; exact h5, h4⟩
  rw [f.is (fun _ => by rw [h5, rk]), h1]
  exact fin h3 (by omega)
theorem all_puts : ∀ {E : List Eff} {S : Space}, UpS S → S.length + E.length < 65536 → (∀ e ∈ E, PutE e kd ∧ e.key = key) → (∀ t, findS S key = some t → t.kind = kd ∧ countT t + E.length ≤ 65536) → ∃ S', allS S E = some S'
 |[], S, _, _, _, _ => ⟨S, rfl⟩
 |e :: E, S, hu, hl, hE, hf => by
  obtain ⟨p, hke⟩ := hE e (by simp)
  have hl : S.length + (E.length + 1) < 65536 := hl
  have hf : ∀ t, findS S key = some t → t.kind = kd ∧ countT t + (E.length + 1) ≤ 65536 := hf
  obtain ⟨t', h1, h2, h3⟩ := fate_puts (S := S) p (by omega) fun t ht => ⟨(hf t (by rw [← hke]; exact ht)).1, by have := (hf t (by rw [← hke]; exact ht)).2; omega⟩
  rw [hke] at h3
  have hlen := len_put (S := S) (key := key) (t := t')
  obtain ⟨S', h4⟩ := all_puts (E := E) (S := putS S key t') (up_putS hu) (by omega) (fun e' he' => hE e' (by simp [he'])) fun t ht => by
   rw [find_put hu, if_pos rfl] at ht
   cases ht
   refine ⟨h2, ?_⟩
   cases hg : findS S key with
   |none =>
    rw [hg] at h3
    have h3 : countT t' ≤ 0 + 1 := h3
    omega
   |some t =>
    rw [hg] at h3
    have h3 : countT t' ≤ countT t + 1 := h3
    have := (hf t hg).2
    omega
  refine ⟨S', ?_⟩
  simp only [allS]
  rw [h1, hke, if_pos (show (Fate.put t').num = 0 from rfl)]
  exact h4
theorem all_takes {mkE : ByteArray → Eff} {th : Thing → ByteArray → Bool} {D : Thing → ByteArray → Thing} (hfit : ∀ n, n.size ≤ 1048576 → ∃ r, FitE (mkE n) r ∧ r.kind = kd) (hkey : ∀ n, (mkE n).key = key)
  (hd : ∀ t n, doneT t (mkE n) = (D t n, if th t n then 0 else 5)) (hk : ∀ t n, (D t n).kind = t.kind) (hth : ∀ t n m, m ≠ n → th (D t n) m = th t m) (hc : ∀ t n, th t n = true → countT t ≠ 0) (hle : ∀ t n, countT (D t n) ≤ countT t) :
  ∀ {ns : List ByteArray} {S : Space} {t : Thing}, UpS S → findS S key = some t → t.kind = kd → countT t ≤ 65536 → ns.Nodup → (∀ n ∈ ns, th t n = true ∧ n.size ≤ 1048576) → ∃ S', allS S (ns.map mkE) = some S'
 |[], S, t, _, _, _, _, _, _ => ⟨S, rfl⟩
 |n :: ns, S, t, hu, hf, hkt, hct, hnd, hall => by
  obtain ⟨hn, hnd⟩ := List.nodup_cons.1 hnd
  obtain ⟨h1, h2⟩ := hall n (by simp)
  obtain ⟨r, fit, rk⟩ := hfit n h2
  have hfate : fateS S (mkE n) = endF (D t n, 0) true (decide (65536 ≤ S.length)) := by
   unfold fateS
   rw [hkey, hf, fit.is (fun _ => by rw [hkt, rk]), hd, h1]
   rfl
  have hrest : ∀ m ∈ ns, th (D t n) m = true ∧ m.size ≤ 1048576 := fun m hm => by
   have hne : m ≠ n := fun e => hn (e ▸ hm)
   rw [hth t n m hne]
   exact hall m (by simp [hm])
  have hle' := hle t n
  have hcs : (fateS S (mkE n)).num = 0 ∧ ∃ S', allS ((fateS S (mkE n)).space S (mkE n).key) (ns.map mkE) = some S' := by
   rw [hfate, hkey]
   unfold endF
   rw [if_neg (fun h => h rfl)]
   by_cases h0 : (D t n, (0 : Int)).1.kind ≠ 1 ∧ countT (D t n, (0 : Int)).1 = 0
   ·rw [if_pos h0]
    refine ⟨rfl, ?_⟩
    have : ns = [] := by
     cases ns with
     |nil => rfl
     |cons m ns => exact absurd h0.2 (hc _ m (hrest m (by simp)).1)
    subst this
    exact ⟨_, rfl⟩
   ·rw [if_neg h0, if_neg (by
     rintro (h | ⟨h, _⟩)
     ·have h : 65536 < countT (D t n) := h
      omega
     ·cases h)]
    refine ⟨rfl, ?_⟩
    exact all_takes hfit hkey hd hk hth hc hle (up_putS hu) (t := D t n) (by show findS (putS S key (D t n)) key = _; rw [find_put hu, if_pos rfl]) (by rw [hk]; exact hkt) (by omega) hnd hrest
  obtain ⟨hz, S', hS⟩ := hcs
  refine ⟨S', ?_⟩
  simp only [List.map_cons, allS]
  rw [if_pos hz]
  exact hS
theorem all_drops9 (hu : UpS S) (hk : key.size ≤ 1048576) : ∃ S', allS S (dropsS S key now) = some S' ∧ UpS S' ∧ S'.length ≤ S.length ∧ findS S' key = getS S key now := by
 unfold dropsS
 split
 ·rename_i hc
  obtain ⟨t, ht⟩ := Option.isSome_iff_exists.1 hc.1
  have hf := fate_gone ht hk
  refine ⟨dropS S key, by rw [all_one (by rw [hf]; rfl), hf]; rfl, up_dropS hu, len_drop, ?_⟩
  rw [find_drop hu, if_pos rfl]
  cases hg : getS S key now with
  |none => rfl
  |some t => rw [hg] at hc; exact absurd hc.2 (by simp)
 ·rename_i hc
  refine ⟨S, rfl, hu, Nat.le_refl _, ?_⟩
  cases hg : getS S key now with
  |some t => exact getS_find hg
  |none =>
   cases hf : findS S key with
   |none => rfl
   |some t => exact absurd ⟨by rw [hf]; rfl, by rw [hg]; rfl⟩ hc
end
theorem newL_ok {there : ByteArray → Bool} : ∀ {l pre : List ByteArray}, (newL there pre l).Nodup ∧ (∀ n ∈ newL there pre l, there n = false ∧ n ∉ pre ∧ n ∈ l) ∧ (newL there pre l).length ≤ l.length
 |[], pre => ⟨List.nodup_nil, fun n hn => (nomatch (show n ∈ ([] : List ByteArray) from hn)), Nat.le_refl _⟩
 |x :: l, pre => by
  obtain ⟨h1, h2, h3⟩ := newL_ok (there := there) (l := l) (pre := pre ++ [x])
  have h2' : ∀ n ∈ newL there (pre ++ [x]) l, there n = false ∧ n ∉ pre ∧ n ∈ x :: l := fun n hn => by
   obtain ⟨a, b, c⟩ := h2 n hn
   exact ⟨a, fun hm => b (by simp [hm]), by simp [c]⟩
  simp only [newL]
  split
  ·rename_i hc
   refine ⟨?_, ?_, by simp; omega⟩
   ·show (x :: newL there (pre ++ [x]) l).Nodup
    exact List.nodup_cons.2 ⟨fun hm => (h2 x hm).2.1 (by simp), h1⟩
   ·intro n hn
    rcases List.mem_cons.1 (show n ∈ x :: newL there (pre ++ [x]) l from hn) with rfl | hn
    ·exact ⟨hc.1, hc.2, by simp⟩
    ·exact h2' n hn
  ·refine ⟨h1, h2', by simp; omega⟩
theorem hereL_ok {there : ByteArray → Bool} {l : List ByteArray} : (hereL there l).Nodup ∧ (∀ n ∈ hereL there l, there n = true ∧ n ∈ l) ∧ (hereL there l).length ≤ l.length := by
 obtain ⟨h1, h2, h3⟩ := newL_ok (there := fun n => !there n) (l := l) (pre := [])
 refine ⟨h1, fun n hn => ?_, h3⟩
 obtain ⟨a, _, c⟩ := h2 n hn
 exact ⟨by simpa using a, c⟩
section
variable {key n s : ByteArray} {z : Int}
theorem puts_add (hk : key.size ≤ 1048576) (hn : n.size ≤ 1048576) : PutE (addE key n) 4 :=
 ⟨⟨⟨true, false, false, 4, true, 197⟩, ⟨rfl, (fun h => by cases h), fun _ => rfl, fun _ => rfl, hk, hn, by show noText.size ≤ _; decide⟩, rfl, rfl⟩, fun t => by
  have h1 := putF_len (eq := fun x : ByteArray => decide (x = n)) (lt := fun x => sless n x) (y := n) t.list false
  have h2 := List.length_pos_iff.2 (putF_ne (eq := fun x : ByteArray => decide (x = n)) (lt := fun x => sless n x) (y := n) t.list)
  refine ⟨_, rfl, rfl, ?_, ?_⟩
  ·unfold countT; show t.pairs.length + (putF (fun x : ByteArray => decide (x = n)) (fun x => sless n x) n t.list false).length + t.ranks.length ≠ 0; omega
  ·unfold countT; show t.pairs.length + (putF (fun x : ByteArray => decide (x = n)) (fun x => sless n x) n t.list false).length + t.ranks.length ≤ _; omega⟩
end
end Go.Proofs.YtjnijlnmbjjgpaaGreatDoor
namespace Go.Proofs.YtjnijlnmbjjgpaaGreatDoor
open Go Go.Sx C
section
variable {S : Space} {k n key s : ByteArray} {now kd items at_ : Int} {t : Thing} {e : Eff} {r : Rep} {E : List Eff} {A : List ByteArray} {ok : Bool} {f : Thing → Res}
theorem anyL (l : List ByteArray) (n : ByteArray) : thereL l n = l.any fun x => decide (x = n) := by
 unfold thereL
 rw [Bool.eq_iff_iff]
 simp
def Got (S : Space) (now : Int) (kd : Int) (key : ByteArray) (t : Thing) : Prop := (getS S key now = none ∧ t = zeroT) ∨ (getS S key now = some t ∧ t.kind = kd)
theorem Got.count (s : S9 S) (g : Got S now kd key t) : countT t ≤ 6000 := by
 rcases g with ⟨_, rfl⟩ | ⟨h, _⟩
 ·exact Nat.zero_le _
 ·have h9 : T9 t := s _ (getS_mem h)
  have := h9.ps; have := h9.ls; have := h9.rs
  unfold countT
  omega
theorem Fine.kindly (h : ∀ t, Got S now kd key t → Fine S (f t)) : Fine S (kindly S now kd key f) := by
 unfold Proofs.YtjnijlnmbjjgpaaGreatDoor.kindly
 split
 ·rename_i hg
  exact h zeroT (.inl ⟨hg, rfl⟩)
 ·rename_i t hg
  exact Fine.ite (fun hk => h t (.inr ⟨hg, hk⟩)) fun _ => Fine.bad
theorem fine_makes (f : Few S) (s : S9 S) (g : Got S now kd key t) (hq : r.k ≠ 2) (hE : key.size ≤ 1048576 → ok = true → ∀ e ∈ E, PutE e kd ∧ e.key = key) (hlen : E.length ≤ 100) : Fine S (makes S now key items ok r E) :=
 Fine.ite (fun hc => by
  have hl := f.len
  have hd := drops_len S key now
  obtain ⟨S1, h1, u1, l1, f1⟩ := all_drops9 (now := now) f.up hc.2.1
  obtain ⟨S2, h2⟩ := all_puts (kd := kd) (key := key) (E := E) u1 (by omega) (hE hc.2.1 hc.2.2) fun u hu => by
   rw [f1] at hu
   rcases g with ⟨hg, _⟩ | ⟨hg, hk⟩
   ·rw [hg] at hu; cases hu
   ·rw [hg] at hu
    cases hu
    have := Got.count s (.inr ⟨hg, hk⟩)
    exact ⟨hk, by omega⟩
  exact Fine.of hq (by rw [List.length_append]; omega) ⟨S2, all_then h1 h2⟩) fun _ => Fine.bad
theorem small_of {l : List ByteArray} {x : ByteArray} (h : l.all small = true) (hx : x ∈ l) : x.size ≤ 1048576 := of_decide_eq_true (List.all_eq_true.1 h x hx)
theorem fine_away {there : Thing → ByteArray → Bool} {mk : ByteArray → ByteArray → Eff} {D : Thing → ByteArray → Thing} (f : Few S) (s : S9 S) (h0 : ∀ n, there zeroT n = false) (hfit : ∀ key n, key.size ≤ 1048576 → n.size ≤ 1048576 → ∃ r, FitE (mk key n) r ∧ r.kind = kd) (hkey : ∀ key n, (mk key n).key = key)
  (hd : ∀ t key n, doneT t (mk key n) = (D t n, if there t n then 0 else 5)) (hk : ∀ t n, (D t n).kind = t.kind) (hth : ∀ t n m, m ≠ n → there (D t n) m = there t m) (hc : ∀ t n, there t n = true → countT t ≠ 0) (hle : ∀ t n, countT (D t n) ≤ countT t) :
  ∀ {A : List ByteArray}, A.length ≤ 20 → (∀ a ∈ A, a.size ≤ 300) → Fine S (cAway S now kd there mk A)
 |[], _, _ => Fine.bad
 |key :: l, hA, hz => by
  have hl : l.length + 1 ≤ 20 := hA
  refine Fine.ite (fun _ => Fine.kindly fun t g => ?_) fun _ => Fine.bad
  obtain ⟨h1, h2, h3⟩ := hereL_ok (there := there t) (l := l)
  refine Fine.of (by show (3 : Int) ≠ 2; decide) (by rw [List.length_map]; omega) ?_
  have hcn := g.count s
  rcases g with ⟨_, rfl⟩ | ⟨hg, hkd⟩
  ·have : hereL (there zeroT) l = [] := List.eq_nil_iff_forall_not_mem.2 fun n hn => by
    have := (h2 n hn).1
    rw [h0] at this
    cases this
   rw [this]
   exact ⟨S, rfl⟩
  ·have hfk := getS_find hg
   exact all_takes (th := there) (D := D) (key := key) (fun n hn => hfit key n (f.keys.of hfk) hn) (hkey key) (fun t n => hd t key n) hk hth hc hle f.up hfk hkd (by omega) h1 fun n hn => ⟨(h2 n hn).1, by have := hz n (by simp [(h2 n hn).2]); omega⟩
theorem del_any {α : Type} {nm : α → ByteArray} {l : List α} {n m : ByteArray} (h : m ≠ n) : (delF (fun x => decide (nm x = n)) l).any (fun x => decide (nm x = m)) = l.any fun x => decide (nm x = m) := by
 unfold delF
 rw [Bool.eq_iff_iff, List.any_eq_true, List.any_eq_true]
 constructor
 ·rintro ⟨x, hx, e⟩
  exact ⟨x, (List.mem_filter.1 hx).1, e⟩
 ·rintro ⟨x, hx, e⟩
  refine ⟨x, List.mem_filter.2 ⟨hx, ?_⟩, e⟩
  have e : nm x = m := of_decide_eq_true e
  simp [e, h]
theorem any_pos {α : Type} {p : α → Bool} {l : List α} (h : l.any p = true) : 0 < l.length := by
 cases l with
 |nil => cases h
 |cons x l => simp
theorem fine_srem (f : Few S) (s : S9 S) (hA : A.length ≤ 20) (hz : ∀ a ∈ A, a.size ≤ 300) : Fine S (cSrem S now A) :=
 fine_away (D := fun t n => { t with list := delF (fun x => decide (x = n)) t.list }) f s (fun n => by rw [anyL]; rfl)
  (fun key n hk hn => ⟨⟨true, false, false, 4, false, 198⟩, ⟨rfl, (fun h => by cases h), fun _ => rfl, fun _ => rfl, hk, hn, by show noText.size ≤ _; decide⟩, rfl⟩) (fun _ _ => rfl)
  (fun t key n => by rw [anyL]; rfl) (fun _ _ => rfl) (fun t n m h => by rw [anyL, anyL]; exact del_any (nm := fun x => x) h) (fun t n h => by rw [anyL] at h; have := any_pos h; unfold countT; omega)
  (fun t n => by have : (delF (fun x : ByteArray => decide (x = n)) t.list).length ≤ _ := List.length_filter_le _ _; unfold countT; show t.pairs.length + (delF (fun x : ByteArray => decide (x = n)) t.list).length + t.ranks.length ≤ t.pairs.length + t.list.length + t.ranks.length; omega) hA hz
theorem fine_sadd (f : Few S) (s : S9 S) : ∀ {A : List ByteArray}, A.length ≤ 20 → Fine S (cSadd S now A)
 |[], _ => Fine.bad
 |key :: l, hA => by
  have hl : l.length + 1 ≤ 20 := hA
  refine Fine.ite (fun hc => Fine.kindly fun t g => ?_) fun _ => Fine.bad
  obtain ⟨h1, h2, h3⟩ := newL_ok (there := thereL t.list) (l := l) (pre := [])
  show Fine S (if newL (thereL t.list) [] l = [] then _ else _)
  refine Fine.ite (fun _ => Fine.none_ (by show (3 : Int) ≠ 2; decide)) fun _ => ?_
  refine fine_makes f s g (by show (3 : Int) ≠ 2; decide) (fun hk hok e he => ?_) (by rw [List.length_map]; omega)
  obtain ⟨p, hm, rfl⟩ := List.mem_map.1 he
  exact ⟨puts_add hk (small_of hok hm), rfl⟩
theorem fine_sis : Fine S (cSis S now A) := Fine.arg2 fun x y => Fine.kindly fun t g => Fine.none_ (by show (3 : Int) ≠ 2; decide)
theorem fine_scard : Fine S (cScard S now A) := Fine.arg1 fun x _ => Fine.kindly fun t g => Fine.none_ (by show (3 : Int) ≠ 2; decide)
theorem fine_smem : Fine S (cSmem S now A) := Fine.arg1 fun x _ => Fine.kindly fun t g => Fine.none_ (by show (5 : Int) ≠ 2; decide)
theorem fine_inter : ∀ {ks acc : List ByteArray}, Fine S (interL S now acc ks fun l => .ok (listR l, []))
 |[], acc => Fine.none_ (by show (5 : Int) ≠ 2; decide)
 |k :: ks, acc => Fine.kindly fun t g => fine_inter
theorem fine_sinter : ∀ {A : List ByteArray}, Fine S (cSinter S now A)
 |[] => Fine.bad
 |_key :: _ks => Fine.ite (fun _ => Fine.kindly fun _t _g => fine_inter) fun _ => Fine.bad
end
end Go.Proofs.YtjnijlnmbjjgpaaGreatDoor
