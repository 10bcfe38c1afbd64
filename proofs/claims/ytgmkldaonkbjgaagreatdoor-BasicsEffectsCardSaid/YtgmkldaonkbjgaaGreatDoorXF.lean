/-
  Layer 8: a command that is asked, as what stands in a walk.
  Layer 8: GET, STRLEN, INCR, DECR, INCRBY, APPEND.
  Layer 8: INCR, DECR, INCRBY, APPEND.
  Layer 8: what Do does behind a command: a stop is an error's reply.
  The simplified code of this seat's functions, and that it is what the program's code comes to. Printed by a program (wip/print.lean).
  The simplified code of this seat's functions, and that it is what the program's code comes to. Printed by a program (wip/print.lean).
  The simplified code of this seat's functions, and that it is what the program's code comes to. Printed by a program (wip/print.lean).
  Layer 8: a text in capital letters, by the document and by the program.
  Layer 8: the map of commands: which function stands under which word; by a walk.
  Layer 8: Do, for a word that is a command's.
  Layer 8: what the commands come to; plain.
  Layer 8: Do, whatever is asked.
  Layer 8: what effects make of a keyspace, one behind the other; plain.
  Layer 8: TYPE, PERSIST, PTTL, PEXPIRE, DBSIZE.
  Layer 8: what is known of a keyspace that keys.Of made of few things.
  Layer 8: EXISTS, DEL, DBSIZE.
  Layer 8: MGET, KEYS, DEL, MSET.
  Layer 8: DEL, MSET.
  Layer 8: SET, FLUSHALL.
  Layer 8: whatever is asked: its effects are all done.
  Layer 8: known(), by a walk.
  Layer 8: the law of effects (taborlaw08.BasicsEffects).
  The world of a witness: the tables and errors of strconv and math/bits as they are laid.
-/
import Derived.Test.YtgmkldaonkbjgaaGreatDoorProg
import Derived.Test.YtgmkldaonkbjgaaGreatDoorCards
import Derived.Test.YtgmkldaonkbjgaaGreatDoorTie
import Derived.Deep.DeepHandedRow
import Derived.ProofKit
import Derived.Test.YtgmkldaonkbjgaaGreatDoorXE
namespace Go.Proofs.YtgmkldaonkbjgaaGreatDoor
open Go Go.Sx Go.Proofs.YtgmkldaonkbjgaaGreatDoor.C

def asE (ab kb : Nat) (now : Int) (av lv : Value) (L : List Eff) : En :=
  .x (ab :: vblk lv) (fun h => Blk h ab [ptr kb, .int .i64 now, av, lv] ∧ OL encD 5 h lv L ∧ ab ∉ vblk lv)
    (fun S h h' hc hn ⟨h1, h2, h3⟩ => ⟨h1.chg hc (hn _ (by simp)), h2.chg hc (fun b hb => hn _ (by simp [hb])), h3⟩)
    (fun h ⟨h1, h2, _⟩ b hb => by
      rcases List.mem_cons.1 hb with rfl | hb
      · exact h1.lt
      · exact OL.lt h2 b hb)

section
variable {h0 h h1 h' : Heap} {ab kb : Nat} {now : Int} {av lv lv' : Value} {A : List ByteArray} {L E : List Eff} {M : List En} {T : List Nat}

theorem AS.st (x : AS h0 h ab kb now av A lv L) : St (ab :: vblk lv) h h [asE ab kb now av lv L] := by
  refine ⟨(Chg.refl h).mono (by simp), fun i e hi => ?_, fun i j e f hi hj hn => ?_⟩
  · match i, hi with
    | 0, hi => cases hi; exact ⟨⟨x.blk, x.effs, fun hm => (x.own ab hm).2 rfl⟩, fun b hb => .inl hb⟩
  · match i, j, hi, hj, hn with
    | 0, 0, _, _, hn => exact absurd rfl hn

theorem AS.out (x : AS h0 h ab kb now av A lv L) (w : St (ab :: vblk lv) h h' M) (i : Nat) (hi : M[i]? = some (asE ab kb now av lv' E)) : AS h0 h' ab kb now av A lv' E ∧ Aside h h' ab lv lv' := by
  obtain ⟨⟨hB, ho, hn⟩, hf⟩ := w.ents i _ hi
  have hz := x.chg.size
  have hT : ∀ b ∈ ab :: vblk lv, h0.size ≤ b := fun b hb => by
    rcases List.mem_cons.1 hb with rfl | hb
    · exact x.fresh
    · exact (x.own b hb).1
  have hv : ∀ b ∈ vblk lv', b ∈ vblk lv ∨ h.size ≤ b := fun b hb => by
    rcases hf b (List.mem_cons_of_mem _ hb) with h1 | h1
    · rcases List.mem_cons.1 h1 with rfl | h1
      · exact absurd hb hn
      · exact .inl h1
    · exact .inr h1
  refine ⟨⟨x.chg.fresh w.chg hT, x.fresh, x.args, hB, ho, fun b hb => ⟨?_, fun e => hn (e ▸ hb)⟩⟩, .mk hv w.chg⟩
  rcases hv b hb with h1 | h1
  · exact (x.own b h1).1
  · omega

theorem _root_.Go.Sx.St.aside (w : St T h1 h M) (i : Nat) (hi : M[i]? = some (asE ab kb now av lv L)) (x : AS h0 h' ab kb now av A lv' E) (a : Aside h h' ab lv lv') : St T h1 h' (M.set i (asE ab kb now av lv' E)) := by
  refine w.set i hi a.2.1 (fun _ hk => .inl hk) ⟨x.blk, x.effs, fun hm => (x.own ab hm).2 rfl⟩ fun b hb => ?_
  rcases List.mem_cons.1 hb with rfl | hb
  · exact .inl (List.mem_cons_self ..)
  · rcases a.1 b hb with h3 | h3
    · exact .inl (List.mem_cons_of_mem _ h3)
    · exact .inr h3

theorem _root_.Go.Sx.St.lda {o : Nat} {v : Value} {K : Value → Prop} (w : St T h1 h M) (i : Nat) (hi : M[i]? = some (asE ab kb now av lv L)) (hv : [ptr kb, .int .i64 now, av, lv][o]? = some v) (k : K v) : ∃ v, cell h ab o = some v ∧ K v := ⟨v, cell_blk (w.get i hi).1 hv, k⟩
end

def thE (t : Thing) (pv lv rv : Value) : En :=
  .x (bl3 pv lv rv) (fun h => TH h (cellsT t pv lv rv) t ∧ ∀ b ∈ bl3 pv lv rv, b < h.size) (fun S h h' hc hn ⟨h1, h2⟩ => ⟨th_off h1 hc hn, fun b hb => Nat.lt_of_lt_of_le (h2 b hb) hc.size⟩) (fun h ⟨_, h2⟩ b hb => h2 b hb)

def GetC (h : Heap) (kb : Nat) (key : ByteArray) (now : Int) (go : Option Thing) : Prop :=
  ∀ {h1}, Chg [] h h1 → CallsH Tryz.prog 106 [ptr kb, .string key, .int .i64 now] h1 (Ret fun r h' => GetR h1 h' go r ∧ Chg [] h1 h')

def apart7 (c d e0 e1 b v a1 a2 a3 : Nat) (E : List (Nat × Value)) : Bool :=
  !Nat.beq d e0 && !Nat.beq e0 b && !Nat.beq e0 e1 && !Nat.beq e1 b && !Nat.beq b v && !Nat.beq b c && !Nat.beq b d && !Nat.beq b e1 && !Nat.beq a1 b && !Nat.beq a2 b && !Nat.beq a3 b &&
    E.all fun p => !Nat.beq p.1 c && !Nat.beq p.1 d && !Nat.beq p.1 e0 && !Nat.beq p.1 e1 && !Nat.beq p.1 b && !Nat.beq p.1 v

theorem beqF {a b : Nat} (h : Nat.beq a b = false) : a ≠ b := fun e => by subst e; rw [Nat.beq_refl] at h; cases h
theorem beqT {a b : Nat} (h : a ≠ b) : Nat.beq a b = false := by
  cases hb : Nat.beq a b with
  | false => rfl
  | true => exact absurd (Nat.eq_of_beq_eq_true hb) h

theorem sub7 {σ τ : Env} {c d e0 e1 b v : Nat} : ∀ {E : List (Nat × Value)}, SubL σ E → (E.all fun p => !Nat.beq p.1 c && !Nat.beq p.1 d && !Nat.beq p.1 e0 && !Nat.beq p.1 e1 && !Nat.beq p.1 b && !Nat.beq p.1 v) = true →
    (∀ t, t ≠ c → t ≠ d → t ≠ e0 → t ≠ e1 → t ≠ b → t ≠ v → τ t = σ t) → SubL τ E
  | [], _, _, _ => trivial
  | (n, u) :: E, ⟨h1, h2⟩, ha, ht => by
    simp only [List.all_cons, Bool.and_eq_true, Bool.not_eq_true'] at ha
    obtain ⟨⟨⟨⟨⟨⟨n1, n2⟩, n3⟩, n4⟩, n5⟩, n6⟩, ha⟩ := ha
    exact ⟨by rw [ht n (beqF n1) (beqF n2) (beqF n3) (beqF n4) (beqF n5) (beqF n6)]; exact h1, sub7 h2 ha ht⟩

theorem get_two {σ : Env} {Qp : List PanicEntry → Heap → Prop} {K : Env → Heap → Prop} {T : List Nat} {h0 h : Heap} {L : List En} {kb : Nat} {key : ByteArray} {now : Int} {go : Option Thing} {c d e0 e1 b v a1 a2 a3 : Nat} (w : St T h0 h L) (get : GetC h kb key now go) (E : List (Nat × Value))
    (h1 : σ a1 = some (ptr kb)) (h2 : σ a2 = some (.string key)) (h3 : σ a3 = some (.int .i64 now)) (hE : SubL σ E) (ha : apart7 c d e0 e1 b v a1 a2 a3 E = true) (hm : MonoE K)
    (k : ∀ h' b6 pv lv rv, St T h0 h' (.b b6 (cellsT (go.getD zeroT) pv lv rv) :: thE (go.getD zeroT) pv lv rv :: L) → K (mk ((b, ptr b6) :: (v, .bool go.isSome) :: E)) h') :
    sops Tryz.prog Qp K [⟨some c, none, .callq 106 [.tmp a1, .tmp a2, .tmp a3]⟩, ⟨some d, none, .mv (.tmp c)⟩, ⟨some e0, none, .ext (.tmp d) 0⟩, ⟨some e1, none, .ext (.tmp d) 1⟩, ⟨some b, none, .new [(.int .i64 0), (.string ⟨#[]⟩), (.slice none 0 0), (.slice none 0 0), (.slice none 0 0), (.bool false), (.int .i64 0)]⟩,
      ⟨none, none, .st 7 (.tmp b) (.tmp e0)⟩, ⟨some v, none, .mv (.tmp e1)⟩] σ h ∧
    sops Tryz.prog Qp K [⟨some b, none, .new [(.int .i64 0), (.string ⟨#[]⟩), (.slice none 0 0), (.slice none 0 0), (.slice none 0 0), (.bool false), (.int .i64 0)]⟩, ⟨some c, none, .callq 106 [.tmp a1, .tmp a2, .tmp a3]⟩, ⟨some d, none, .mv (.tmp c)⟩, ⟨some e0, none, .ext (.tmp d) 0⟩, ⟨some e1, none, .ext (.tmp d) 1⟩,
      ⟨none, none, .st 7 (.tmp b) (.tmp e0)⟩, ⟨some v, none, .mv (.tmp e1)⟩] σ h := by
  simp only [apart7, Bool.and_eq_true, Bool.not_eq_true'] at ha
  obtain ⟨⟨⟨⟨⟨⟨⟨⟨⟨⟨⟨n1, n2⟩, n3⟩, n4⟩, n5⟩, n6⟩, n7⟩, n8⟩, n9⟩, n10⟩, n11⟩, ha⟩ := ha
  have n2' : Nat.beq b e0 = false := beqT (Ne.symm (beqF n2))
  have fin : ∀ {τ : Env} {h' : Heap} {b6 : Nat} {pv lv rv : Value}, τ b = some (ptr b6) → τ v = some (.bool go.isSome) → (∀ t, t ≠ c → t ≠ d → t ≠ e0 → t ≠ e1 → t ≠ b → t ≠ v → τ t = σ t) →
      St T h0 h' (.b b6 (cellsT (go.getD zeroT) pv lv rv) :: thE (go.getD zeroT) pv lv rv :: L) → K τ h' := fun hb hv ho w => hm _ _ _ (sub_mk (l := (b, ptr _) :: (v, .bool go.isSome) :: E) ⟨hb, hv, sub7 hE ha ho⟩) (k _ _ _ _ _ w)
  have seven7 : ∀ {t : Thing} {pv lv rv : Value}, splice [(.int .i64 0), (.string ⟨#[]⟩), (.slice none 0 0), (.slice none 0 0), (.slice none 0 0), (.bool false), (.int .i64 0)] 0 (cellsT t pv lv rv) = cellsT t pv lv rv := fun {t pv lv rv} => rfl
  refine ⟨?_, ?_⟩
  · simp only [sops, sopr, sop, evs, ev, h1, h2, h3]
    refine callq_ret (get (Chg.refl h)) ?_
    rintro _ h4 ⟨⟨pv, lv, rv, rfl, tu, fr⟩, c4⟩
    refine ⟨c4.ext, ?_⟩
    have w4 := w.add (e := thE (go.getD zeroT) pv lv rv) c4 ⟨tu, fun b hb => (fr b hb).2⟩ fun b hb => (fr b hb).1
    simp only [upd, Nat.beq_refl, cond_true, cond_false, n1, n2, n3, n4, n5, n6, n7, n8]
    intro b6 h5 g5
    have w5 := w4.new g5
    refine w5.st3 0 rfl rfl rfl (thing_one tu) fun h6 w6 => ?_
    refine fin ?_ ?_ ?_ w6
    · simp [upd, n5]; rfl
    · simp [upd]
    · intro t t1 t2 t3 t4 t5 t6
      simp [upd, beqT t1, beqT t2, beqT t3, beqT t4, beqT t5, beqT t6]
  · simp only [sops, sopr, sop, evs, ev]
    intro b6 h4 g4
    have w4 := w.new g4
    simp only [upd, Nat.beq_refl, cond_true, cond_false, n9, n10, n11, h1, h2, h3]
    refine callq_ret (get g4.chg) ?_
    rintro _ h5 ⟨⟨pv, lv, rv, rfl, tu, fr⟩, c5⟩
    refine ⟨c5.ext, ?_⟩
    have w5 := w4.add (e := thE (go.getD zeroT) pv lv rv) c5 ⟨tu, fun b hb => (fr b hb).2⟩ fun b hb => (fr b hb).1
    simp only [upd, Nat.beq_refl, cond_true, cond_false, n1, n2, n2', n3, n4, n5, n6, n7, n8]
    refine w5.st3 1 rfl rfl rfl (thing_one tu) fun h6 w6 => ?_
    refine fin ?_ ?_ ?_ (w6.swap)
    · simp [upd, n5, n6, n7, n8, n2']; rfl
    · simp [upd]
    · intro t t1 t2 t3 t4 t5 t6
      simp [upd, beqT t1, beqT t2, beqT t3, beqT t4, beqT t5, beqT t6]

structure Rep where
  k : Int
  i : Int
  s : ByteArray
  l : List (Int × Int × ByteArray)
abbrev rep (k i : Int) (s : ByteArray) : Rep := ⟨k, i, s, []⟩
def encQ (x : Int × Int × ByteArray) : List Value := [.int .i64 x.1, .int .i64 x.2.1, .string x.2.2, .slice none 0 0]
theorem encQ_len (x : Int × Int × ByteArray) : (encQ x).length = 4 := rfl
theorem encQ_one (x : Int × Int × ByteArray) : ∀ u ∈ encQ x, u.oneCell' = true := repV_ones x.1 x.2.1 x.2.2
def RepAt (z : Nat) (h : Heap) (v : Value) (q : Rep) : Prop := ∃ a n c, v = .agg ⟨[.int .i64 q.k, .int .i64 q.i, .string q.s, .slice a n c]⟩ ∧ SL encQ h (.slice a n c) q.l ∧ ∀ b ∈ ablk a, z ≤ b

theorem four {ws vs : List Value} (hw : ws.length = 4) (hv : vs.length = 4) : splice ws 0 vs = vs := by
  match ws, hw, vs, hv with
  | [_, _, _, _], _, [_, _, _, _], _ => rfl

def CmdR (h0 h : Heap) (ab kb : Nat) (now : Int) (av : Value) (A : List ByteArray) (lv : Value) (res : Except ByteArray (Rep × List Eff)) : Ending → Heap → Prop :=
  Out (fun r h' => ∃ q E, res = .ok (q, E) ∧ RepAt h.size h' r q ∧ ∃ lv', AS h0 h' ab kb now av A lv' E ∧ Aside h h' ab lv lv') (fun why h' => res = .error why ∧ Chg (ab :: vblk lv) h h')

section
variable {h0 h h1 h' : Heap} {ab kb sb mb c b2 : Nat} {now lo hi k n : Int} {av lv lv' : Value} {A : List ByteArray} {L E : List Eff} {M : List En} {T : List Nat} {s key why : ByteArray} {m : List KI} {S : Space} {res : Except ByteArray (Rep × List Eff)}
  {K : Value → Heap → Prop} {Qp : List PanicEntry → Heap → Prop}

theorem AS.bad (_ : AS h0 h ab kb now av A lv L) (w : St (ab :: vblk lv) h h' M) (he : res = .error why) : CmdR h0 h ab kb now av A lv res (.panicked (stopE why)) h' := ⟨why, rfl, he, w.chg⟩
theorem AS.ends (x : AS h0 h ab kb now av A lv L) (w : St (ab :: vblk lv) h h' M) {v : Value} {q : Rep} (j : Nat) (hj : M[j]? = some (asE ab kb now av lv' E)) (hq : RepAt h.size h' v q) (he : res = .ok (q, E)) :
    CmdR h0 h ab kb now av A lv res (.returned v) h' := ⟨q, E, he, hq, lv', x.out w j hj⟩
theorem AS.fin (x : AS h0 h ab kb now av A lv L) (w : St (ab :: vblk lv) h h' M) (i j : Nat) (hi : M[i]? = some (.b b2 [.int .i64 k, .int .i64 n, .string s, .slice none 0 0])) (hj : M[j]? = some (asE ab kb now av lv' E)) (he : res = .ok (rep k n s, E)) :
    ∃ vs, vs.length = 4 ∧ Cells h' b2 0 vs ∧ CmdR h0 h ab kb now av A lv res (.returned (.agg ⟨vs⟩)) h' :=
  ⟨_, rfl, cells_blk (w.get i hi), x.ends w j hj ⟨none, 0, 0, rfl, SL.nil, fun b hb => (nomatch (show b ∈ ([] : List Nat) from hb))⟩ he⟩

def wArgs : ByteArray := ⟨#[69, 82, 82, 32, 97, 114, 103, 115]⟩
theorem AS.many (x : AS h0 h ab kb now av A lv L) (w : St (ab :: vblk lv) h h1 M) (i : Nat) (hi' : M[i]? = some (asE ab kb now av lv' E)) (hok : lo ≤ A.length ∧ A.length ≤ hi → ∀ v, K v h1) (hbad : ¬ (lo ≤ A.length ∧ A.length ≤ hi) → Qp (stopE wArgs) h1) :
    CallsH Tryz.prog 64 [ptr ab, .int .i64 lo, .int .i64 hi] h1 (after K Qp) :=
  call_out (many_calls (x.out w i hi').1) (fun v h' hr => by obtain ⟨h2, e⟩ := hr; have e := e.symm; subst e; exact hok h2 v) (fun v h' hr => by obtain ⟨h2, rfl, e⟩ := hr; have e := e.symm; subst e; exact hbad h2)

theorem must_go {b : Bool} (hok : b = true → ∀ v, K v h) (hbad : b = false → Qp (stopE s) h) : CallsH Tryz.prog 101 [.bool b, .string s] h (after K Qp) :=
  call_out must_calls (fun v h' hr => by obtain ⟨h2, e⟩ := hr; have e := e.symm; subst e; exact hok h2 v) (fun v h' hr => by obtain ⟨h2, rfl, e⟩ := hr; have e := e.symm; subst e; exact hbad h2)
theorem must_yes (hok : ∀ v, K v h) : CallsH Tryz.prog 101 [.bool true, .string s] h (after K Qp) := must_go (fun _ => hok) (fun e => by cases e)
theorem must_no (hbad : Qp (stopE s) h) : CallsH Tryz.prog 101 [.bool false, .string s] h (after K Qp) := must_go (fun e => by cases e) (fun _ => hbad)

theorem AS.argF (x : AS h0 h ab kb now av A lv L) (hi : 0 < A.length) : ∃ b o c, av = .slice (some ⟨b, o, none⟩) A.length c := by
  have hs := x.args h x.chg
  obtain ⟨a, c, rfl, hcc⟩ := hs.form
  obtain ⟨b, o, rfl⟩ := hs.addr hi
  exact ⟨b, o, c, rfl⟩
theorem AS.ix {i : Int} {b o n cc : Nat} {K : Value → Prop} (x : AS h0 h ab kb now (.slice (some ⟨b, o, none⟩) n cc) A lv L) (c : Chg [] h0 h1) (j : Nat) (e : i = j) (hs : A[j]? = some s) (k : K (.string s)) :
    0 ≤ i ∧ i < (n : Int) ∧ ∃ v, cell h1 b (o + i.toNat * 1) = some v ∧ K v := by
  subst e
  have hj := (List.getElem?_eq_some_iff.1 hs).1
  have hcs := (x.args h1 c).cells encS_len hs
  have hn := (x.args h1 c).len.1
  refine ⟨by omega, by omega, _, ?_, k⟩
  have := hcs 0 _ rfl
  simpa using this

theorem AS.base (x : AS h0 h ab kb now av A lv L) (w : St (ab :: vblk lv) h h' M) : Chg [] h0 h' := x.chg.fresh w.chg fun b hb => by
  rcases List.mem_cons.1 hb with rfl | hb
  · exact x.fresh
  · exact (x.own b hb).1

theorem AS.text (x : AS h0 h ab kb now av A lv L) (kr0 : KR h0 kb sb mb c m) (hs : Sorted m S) (w : St (ab :: vblk lv) h h1 M) (i : Nat) (hi' : M[i]? = some (asE ab kb now av lv' E))
    (hok : ∀ h', (∀ t, getS S key now = some t → t.kind = 1) → St (ab :: vblk lv) h h' M → K (.tuple #[.string ((getS S key now).getD zeroT).text, .bool (getS S key now).isSome]) h')
    (hbad : ∀ h' t, getS S key now = some t → t.kind ≠ 1 → St (ab :: vblk lv) h h' M → Qp (stopE wType) h') : CallsH Tryz.prog 107 [ptr ab, .string key] h1 (after K Qp) :=
  call_out (text_calls key (x.out w i hi').1 kr0 hs) (fun v h' hr => by obtain ⟨h2, rfl, c⟩ := hr; exact hok h' h2 (w.ext c)) (fun v h' hr => by obtain ⟨⟨t, h2, h3⟩, rfl, c⟩ := hr; exact hbad h' t h2 h3 (w.ext c))

theorem AS.put (x : AS h0 h ab kb now av A lv L) {stays : Bool} (kr0 : KR h0 kb sb mb c m) (hs : Sorted m S) (w : St (ab :: vblk lv) h h1 M) (i : Nat) (hi' : M[i]? = some (asE ab kb now av lv' E)) (hL : E.length ≤ 1000000) (hk : key.size < 4611686018427387904) (hz : s.size < 4611686018427387904)
    (hok : ∀ v h' lv2, (s.size ≤ 1048576 ∧ key.size ≤ 1048576) → St (ab :: vblk lv) h h' (M.set i (asE ab kb now av lv2 (E ++ putE S key s now stays))) → K v h')
    (hbad : ¬ (s.size ≤ 1048576 ∧ key.size ≤ 1048576) → Qp (stopE wLong) h1) : CallsH Tryz.prog 103 [ptr ab, .string key, .string s, .bool stays] h1 (after K Qp) :=
  call_out (put_calls key s stays (x.out w i hi').1 kr0 hs hL hk hz) (fun v h' hr => by obtain ⟨h2, lv2, x2, a2⟩ := hr; exact hok v h' lv2 h2 (w.aside i hi' x2 a2)) (fun v h' hr => by obtain ⟨h2, rfl, e⟩ := hr; have e := e.symm; subst e; exact hbad h2)

theorem AS.add (x : AS h0 h ab kb now av A lv L) {F : List Eff} {v : Value} (w : St (ab :: vblk lv) h h1 M) (i : Nat) (hi' : M[i]? = some (asE ab kb now av lv' E)) (hv : SL encD h1 v F) (hb : ((E.length + F.length) * 2 + 768) * 64 ≤ 281474976710656)
    (hok : ∀ v h' lv2, St (ab :: vblk lv) h h' (M.set i (asE ab kb now av lv2 (E ++ F))) → K v h') : CallsH Tryz.prog 104 [ptr ab, v] h1 (after K Qp) :=
  call_ret (add_calls (x.out w i hi').1 hv hb) fun v h' hr => by obtain ⟨lv2, x2, a2⟩ := hr; exact hok v h' lv2 (w.aside i hi' x2 a2)

theorem AS.num (x : AS h0 h ab kb now av A lv L) {j : Nat} (hl : LaidN h0) (hj : j < A.length) (hz : A[j].size < 281474976710656) (w : St (ab :: vblk lv) h h1 M) (i : Nat) (hi' : M[i]? = some (asE ab kb now av lv' E))
    (hok : ∀ h' n, numOf A[j] = some n → St (ab :: vblk lv) h h' M → K (.int .i64 n) h') (hbad : ∀ h', numOf A[j] = none → St (ab :: vblk lv) h h' M → Qp (stopE wNum) h') : CallsH Tryz.prog 66 [ptr ab, .int .i64 j] h1 (after K Qp) :=
  call_out (numA_calls (x.out w i hi').1 hl hj hz) (fun v h' hr => by obtain ⟨n, h2, rfl, c⟩ := hr; exact hok h' n h2 (w.ext c)) (fun v h' hr => by obtain ⟨h2, rfl, c⟩ := hr; exact hbad h' h2 (w.ext c))

theorem plus_go (ha : In64 k) (hb : In64 n) (hok : okSum k n → K (.int .i64 (k + n)) h) (hbad : ¬ okSum k n → Qp (stopE wOver) h) : CallsH Tryz.prog 102 [.int .i64 k, .int .i64 n] h (after K Qp) :=
  call_out (plus_calls ha hb) (fun v h' hr => by obtain ⟨h2, rfl, e⟩ := hr; have e := e.symm; subst e; exact hok h2) (fun v h' hr => by obtain ⟨h2, rfl, e⟩ := hr; have e := e.symm; subst e; exact hbad h2)
end

theorem mono_at {c : SCode} {Q : Post} {ds : List Deferred} (hq : Mono Q) : MonoE (fun σ h => swp Tryz.prog c Q σ ds h) := fun σ σ' h hs hh => swp_sub c Q σ σ' ds h hq hs hh
theorem mono_seq {c : SCode} {Q : Post} (hq : Mono Q) : Mono (thenQ (swp Tryz.prog c Q) Q) := mono_thenQ (fun σ σ' ds h hs hh => swp_sub c Q σ σ' ds h hq hs hh) hq
theorem mono_round {ι : Type} {ds : List Deferred} {E : ι → List (Nat × Value)} {I : ι → Heap → Prop} {p : ι → Prop} {Q : Post} (hq : Mono Q) : Mono (thenQ (fun σ' ds' h' => ds' = ds ∧ ∃ i', SubL σ' (E i') ∧ I i' h' ∧ p i') Q) :=
  mono_thenQ (fun _ _ _ _ hs hh => mono_loop _ _ _ _ hs hh) hq
theorem AS.getc {h0 h h1 : Heap} {ab kb sb mb c : Nat} {now : Int} {av lv : Value} {A : List ByteArray} {L : List Eff} {m : List KI} {S : Space} {M : List En} (x : AS h0 h ab kb now av A lv L) (kr0 : KR h0 kb sb mb c m) (hs : Sorted m S)
    (w : St (ab :: vblk lv) h h1 M) (key : ByteArray) : GetC h1 kb key now (getS S key now) := fun hc => KGetF_calls key now (kr0.ext ((x.base w).nil hc)) hs

theorem one_arg {α : Type} {A : List α} (h : (1 : Int) ≤ A.length ∧ (A.length : Int) ≤ 1) : ∃ x, A = [x] := by
  match A, h with
  | [], h => simp at h
  | [x], _ => exact ⟨x, rfl⟩
  | x :: y :: l, h => simp at h; omega
theorem two_arg {α : Type} {A : List α} (h : (2 : Int) ≤ A.length ∧ (A.length : Int) ≤ 2) : ∃ x y, A = [x, y] := by
  match A, h with
  | [], h => simp at h
  | [x], h => simp at h
  | [x, y], _ => exact ⟨x, y, rfl⟩
  | x :: y :: z :: l, h => simp at h; omega

def arg1 (f : ByteArray → Except ByteArray (Rep × List Eff)) : List ByteArray → Except ByteArray (Rep × List Eff)
  | [x] => f x
  | _ => .error wArgs
def arg2 (f : ByteArray → ByteArray → Except ByteArray (Rep × List Eff)) : List ByteArray → Except ByteArray (Rep × List Eff)
  | [x, y] => f x y
  | _ => .error wArgs
theorem arg1_bad {f : ByteArray → Except ByteArray (Rep × List Eff)} {A : List ByteArray} (h : ¬ ((1 : Int) ≤ A.length ∧ (A.length : Int) ≤ 1)) : arg1 f A = .error wArgs := by
  match A, h with
  | [], _ => rfl
  | [x], h => exact absurd ⟨by simp, by simp⟩ h
  | x :: y :: l, _ => rfl
theorem arg2_bad {f : ByteArray → ByteArray → Except ByteArray (Rep × List Eff)} {A : List ByteArray} (h : ¬ ((2 : Int) ≤ A.length ∧ (A.length : Int) ≤ 2)) : arg2 f A = .error wArgs := by
  match A, h with
  | [], _ => rfl
  | [x], _ => rfl
  | [x, y], h => exact absurd ⟨by simp, by simp⟩ h
  | x :: y :: z :: l, _ => rfl

end Go.Proofs.YtgmkldaonkbjgaaGreatDoor
namespace Go.Proofs.YtgmkldaonkbjgaaGreatDoor
open Go Go.Sx Go.Proofs.YtgmkldaonkbjgaaGreatDoor.C

section
variable {h0 h : Heap} {ab kb sb mb c : Nat} {now n : Int} {av lv : Value} {A : List ByteArray} {m : List KI} {S : Space} {key s a : ByteArray} {t : Thing} {go : Option Thing}

def gGet : Option Thing → Except ByteArray (Rep × List Eff)
  | none => .ok (rep 0 0 noText, [])
  | some t => if t.kind = 1 then .ok (rep 4 0 t.text, []) else .error wType
theorem gGet_no (h : t.kind ≠ 1) : gGet (some t) = .error wType := if_neg h
theorem gGet_yes (h : t.kind = 1) : gGet (some t) = .ok (rep 4 0 t.text, []) := if_pos h
def cGet (S : Space) (now : Int) : List ByteArray → Except ByteArray (Rep × List Eff) := arg1 fun key => gGet (getS S key now)

theorem get_calls (x : AS h0 h ab kb now av A lv []) (kr0 : KR h0 kb sb mb c m) (hs : Sorted m S) : CallsH Tryz.prog 58 [ptr ab] h (CmdR h0 h ab kb now av A lv (cGet S now A)) := by
  refine f58_calls (by simp) ?_
  intro b2 h1 g1
  have w := x.st.new g1
  refine x.many w 1 rfl (fun hok _ => ?_) (fun hb => x.bad w (arg1_bad hb))
  obtain ⟨key, rfl⟩ := one_arg hok
  obtain ⟨b, o, cc, rfl⟩ := x.argF (by simp)
  rw [show cGet S now [key] = gGet (getS S key now) from rfl]
  refine w.lda 1 rfl rfl ?_
  refine x.ix (x.base w) 0 rfl rfl ?_
  refine x.text kr0 hs w 1 rfl (fun h2 hk w => ?_) (fun h2 t ht hk w => x.bad w (by rw [ht]; exact gGet_no hk))
  generalize getS S key now = go at hk ⊢
  cases go with
  | none =>
    refine w.st1 0 rfl rfl rfl rfl fun h3 w => ?_
    exact x.fin w 0 1 rfl rfl rfl
  | some t =>
    refine w.callv Btext_calls fun h3 w => ?_
    refine w.st1 0 rfl rfl rfl rfl fun h4 w => ?_
    exact x.fin w 0 1 rfl rfl (gGet_yes (hk t rfl))

def okT (go : Option Thing) : Bool := match go with
  | none => true
  | some t => decide (t.kind = 1)
theorem okT_yes (h : ∀ t, go = some t → t.kind = 1) : okT go = true := by
  cases go with
  | none => rfl
  | some t => exact decide_eq_true (h t rfl)

def gLong (go : Option Thing) : Except ByteArray (Rep × List Eff) := if okT go = true then .ok (rep 3 (go.getD zeroT).text.size noText, []) else .error wType
theorem gLong_no (h : t.kind ≠ 1) : gLong (some t) = .error wType := if_neg (by simp [okT, h])
def cLong (S : Space) (now : Int) : List ByteArray → Except ByteArray (Rep × List Eff) := arg1 fun key => gLong (getS S key now)

theorem long_calls (x : AS h0 h ab kb now av A lv []) (kr0 : KR h0 kb sb mb c m) (hs : Sorted m S) : CallsH Tryz.prog 68 [ptr ab] h (CmdR h0 h ab kb now av A lv (cLong S now A)) := by
  refine f68_calls (by simp) ?_
  intro b2 h1 g1
  have w := x.st.new g1
  refine x.many w 1 rfl (fun hok _ => ?_) (fun hb => x.bad w (arg1_bad hb))
  obtain ⟨key, rfl⟩ := one_arg hok
  obtain ⟨b, o, cc, rfl⟩ := x.argF (by simp)
  rw [show cLong S now [key] = gLong (getS S key now) from rfl]
  refine w.lda 1 rfl rfl ?_
  refine x.ix (x.base w) 0 rfl rfl ?_
  refine x.text kr0 hs w 1 rfl (fun h2 hk w => ?_) (fun h2 t ht hk w => x.bad w (by rw [ht]; exact gLong_no hk))
  refine w.callv Bnumber_calls fun h3 w => ?_
  refine w.st1 0 rfl rfl rfl rfl fun h4 w => ?_
  exact x.fin w 0 1 rfl rfl (if_pos (okT_yes hk))

instance (a b : Int) : Decidable (okSum a b) := by unfold okSum; infer_instance
def putR (S : Space) (key s : ByteArray) (now : Int) (stays : Bool) (r : Rep) : Except ByteArray (Rep × List Eff) :=
  if s.size ≤ 1048576 ∧ key.size ≤ 1048576 then .ok (r, putE S key s now stays) else .error wLong
def byStep (S : Space) (key : ByteArray) (now n : Int) (s : ByteArray) : Except ByteArray (Rep × List Eff) := match numOf s with
  | none => .error wNum
  | some m => if okSum m n then putR S key ⟨⟨Lib.itoa (m + n)⟩⟩ now true (rep 3 (m + n) noText) else .error wOver
theorem byStep_none (h : numOf s = none) : byStep S key now n s = .error wNum := by unfold byStep; rw [h]
theorem byStep_over {m : Int} (h : numOf s = some m) (ho : ¬ okSum m n) : byStep S key now n s = .error wOver := by unfold byStep; rw [h]; exact if_neg ho
theorem byStep_ok {m : Int} (h : numOf s = some m) (ho : okSum m n) : byStep S key now n s = putR S key ⟨⟨Lib.itoa (m + n)⟩⟩ now true (rep 3 (m + n) noText) := by unfold byStep; rw [h]; exact if_pos ho
def zeroS : ByteArray := ⟨#[48]⟩
def by0 : Option Thing → ByteArray
  | none => zeroS
  | some t => t.text
def gBy (S : Space) (key : ByteArray) (now n : Int) (go : Option Thing) : Except ByteArray (Rep × List Eff) := if okT go = true then byStep S key now n (by0 go) else .error wType
theorem gBy_no (h : t.kind ≠ 1) : gBy S key now n (some t) = .error wType := if_neg (by simp [okT, h])

theorem numOf_in {v : Int} (h : numOf s = some v) : In64 v := by
  obtain ⟨⟨a, b⟩, _⟩ := (Num.num_iff rfl s.data.toList v).1 h
  exact ⟨by omega, by omega⟩
theorem itoa_len {k n : Int} (h : okSum k n) : (Lib.itoa (k + n)).length ≤ 20 := by
  obtain ⟨h0, h1⟩ := h
  unfold Lib.itoa
  split
  · have := Num.dec_len 18 (k + n).natAbs (by omega)
    simp; omega
  · have := Num.dec_len 18 (k + n).toNat (by omega)
    omega

theorem by_rest {h1 : Heap} {b4 : Nat} (x : AS h0 h ab kb now av A lv []) (kr0 : KR h0 kb sb mb c m) (hs : Sorted m S) (hl : LaidN h0) (hA : A[0]? = some key) (hn : In64 n) (hz : s.size < 281474976710656) (hk : key.size < 281474976710656)
    (w : St (ab :: vblk lv) h h1 [.b b4 [.int .i64 0, .int .i64 0, .string ⟨#[]⟩, .slice none 0 0], asE ab kb now av lv []]) :
    swp Tryz.prog (.seq (.ops f65r4) (.seq (.ops f65r5) (.seq (.ops f65r6) (.seq (.ops f65r7) (.seq (.ops f65r8) .ret))))) (retQ [.cn 4 4] (CmdR h0 h ab kb now av A lv (byStep S key now n s)))
      (mk [(0, ptr ab), (1, .int .i64 n), (4, ptr b4), (5, .string s)]) [] h1 := by
  obtain ⟨⟨⟨l⟩⟩, hl2⟩ : ∃ s', s' = s := ⟨_, rfl⟩
  subst hl2
  obtain ⟨u, hu⟩ : ∃ u, u = Num.num l := ⟨_, rfl⟩
  have hu2 : numOf ⟨⟨l⟩⟩ = u := hu.symm
  refine w.call (bnum_calls (hl.ext (x.base w)) hz) ?_
  rintro _ h2 rfl w
  rw [← hu]
  cases u with
  | none => exact must_no (x.bad w (byStep_none hu2))
  | some k =>
    refine must_yes fun _ => ?_
    refine plus_go (numOf_in hu2) hn (fun hok => ?_) (fun hb => x.bad w (byStep_over hu2 hb))
    rw [byStep_ok hu2 hok]
    obtain ⟨b, o, cc, rfl⟩ := x.argF (List.getElem?_eq_some_iff.1 hA).1
    refine w.lda 1 rfl rfl ?_
    refine x.ix (x.base w) 0 rfl hA ?_
    refine w.callqv (format_calls (hl.ext (x.base w)) hok.1 hok.2) fun h3 w => ?_
    have hlen : (⟨⟨Lib.itoa (k + n)⟩⟩ : ByteArray).size < 4611686018427387904 := by
      have h9 : (Lib.itoa (k + n)).length ≤ 20 := itoa_len hok
      show (Lib.itoa (k + n)).length < _
      omega
    refine x.put kr0 hs w 1 rfl (by simp) (by omega) hlen (fun _ h4 lv2 hfit w => ?_) (fun hb => x.bad w (if_neg hb))
    refine w.callv Bnumber_calls fun h5 w => ?_
    refine w.st1 0 rfl rfl rfl rfl fun h6 w => ?_
    exact x.fin w 0 1 rfl rfl (if_pos hfit)

theorem mv_go {P : Program} {x : Operand} {d : Nat} {c : SCode} {Q : Post} {σ : Env} {ds : List Deferred} {h : Heap} {v : Value} (he : ev σ x = some v) (hs : swp P c Q (upd σ (some d) v) ds h) :
    swp P (.seq (.ops [⟨some d, none, .mv x⟩]) c) Q σ ds h := by
  simp only [swp, sops, sopr, sop, he]
  exact hs
theorem not_go {P : Program} {x y : Operand} {d e : Nat} {c : SCode} {Q : Post} {σ : Env} {ds : List Deferred} {h : Heap} {v : Bool} (he : ev σ x = some (.bool v)) (hf : ev (upd σ (some d) (.bool v)) y = some (.bool v))
    (hs : swp P c Q (upd (upd σ (some d) (.bool v)) (some e) (.bool !v)) ds h) : swp P (.seq (.ops [⟨some d, none, .mv x⟩, ⟨some e, none, .un .not y⟩]) c) Q σ ds h := by
  simp only [swp, sops, sopr, sop, he, hf]
  exact hs
theorem cnd_go {P : Program} {x : Operand} {a b c : SCode} {Q : Post} {σ : Env} {ds : List Deferred} {h : Heap} {t : Bool} (he : ev σ x = some (.bool t)) (hs : swp P (.seq (bif t then a else b) c) Q σ ds h) : swp P (.seq (.cond x a b) c) Q σ ds h := by
  cases t with
  | true => simp only [swp, he]; exact hs
  | false => simp only [swp, he]; exact hs
theorem ass_go {P : Program} {a b c : SCode} {Q : Post} {σ : Env} {ds : List Deferred} {h : Heap} (hs : swp P (.seq a (.seq b c)) Q σ ds h) : swp P (.seq (.seq a b) c) Q σ ds h := by
  have e : thenQ (swp P b (thenQ (swp P c Q) Q)) (thenQ (swp P c Q) Q) = thenQ (swp P b (thenQ (swp P c Q) Q)) Q := by
    funext x; cases x <;> rfl
  simp only [swp] at hs ⊢
  rw [e]; exact hs
theorem skp_go {P : Program} {c : SCode} {Q : Post} {σ : Env} {ds : List Deferred} {h : Heap} (hs : swp P c Q σ ds h) : swp P (.seq .skip c) Q σ ds h := hs

def TextS (S : Space) : Prop := ∀ p ∈ S, p.2.text.size < 281474976710656
theorem getS_text (hT : TextS S) (h : getS S key now = some t) : t.text.size < 281474976710656 := by
  unfold getS at h
  split at h
  · rename_i t' hf
    split at h
    · cases h
    · cases h
      exact hT _ (findS_mem hf)
  · cases h
theorem go_text (hT : TextS S) (h : go = getS S key now) : (go.getD zeroT).text.size < 281474976710656 := by
  cases go with
  | none => decide
  | some t => exact getS_text hT h.symm

theorem by_calls (x : AS h0 h ab kb now av A lv []) (kr0 : KR h0 kb sb mb c m) (hs : Sorted m S) (hl : LaidN h0) (hA : A[0]? = some key) (hn : In64 n) (hk : key.size < 281474976710656) (hT : TextS S) :
    CallsH Tryz.prog 65 [ptr ab, .int .i64 n] h (CmdR h0 h ab kb now av A lv (gBy S key now n (getS S key now))) := by
  refine f65_calls (by simp) ?_
  intro b4 h1 g1
  have w := x.st.new g1
  obtain ⟨b, o, cc, rfl⟩ := x.argF (List.getElem?_eq_some_iff.1 hA).1
  refine w.lda 1 rfl rfl ?_
  refine x.ix (x.base w) 0 rfl hA ?_
  refine x.text kr0 hs w 1 rfl (fun h2 hok w => ?_) (fun h2 t ht hb w => x.bad w (by rw [ht]; exact gBy_no hb))
  obtain ⟨go, hgo⟩ : ∃ go, go = getS S key now := ⟨_, rfl⟩
  rw [← hgo] at hok ⊢
  refine cut_at [(0, ptr ab), (1, .int .i64 n), (4, ptr b4), (5, .string (go.getD zeroT).text), (6, .bool go.isSome)] ⟨rfl, rfl, rfl, rfl, rfl, trivial⟩ ?_
  refine ass_go ?_
  refine not_go (v := go.isSome) rfl rfl ?_
  refine cnd_go (t := !go.isSome) rfl ?_
  rw [show gBy S key now n go = byStep S key now n (by0 go) from if_pos (okT_yes hok)]
  cases go with
  | none =>
    refine mv_go (v := .string zeroS) rfl ?_
    exact cut_at [(0, ptr ab), (1, .int .i64 n), (4, ptr b4), (5, .string zeroS)] ⟨rfl, rfl, rfl, rfl, trivial⟩ (by_rest (s := zeroS) x kr0 hs hl hA hn (by decide) hk w)
  | some t =>
    refine skp_go ?_
    exact cut_at [(0, ptr ab), (1, .int .i64 n), (4, ptr b4), (5, .string t.text)] ⟨rfl, rfl, rfl, rfl, trivial⟩ (by_rest x kr0 hs hl hA hn (getS_text hT hgo.symm) hk w)
end

end Go.Proofs.YtgmkldaonkbjgaaGreatDoor
namespace Go.Proofs.YtgmkldaonkbjgaaGreatDoor
open Go Go.Sx Go.Proofs.YtgmkldaonkbjgaaGreatDoor.C

section
variable {h0 h : Heap} {ab kb sb mb c : Nat} {now n : Int} {av lv : Value} {A : List ByteArray} {m : List KI} {S : Space} {key s a : ByteArray} {t : Thing} {go : Option Thing} {q : Rep} {E : List Eff}

theorem putR_rep {stays : Bool} {r : Rep} (h : putR S key s now stays r = .ok (q, E)) : q = r := by
  unfold putR at h
  split at h
  · simp at h; exact h.1.symm
  · cases h
theorem byStep_rep (h : byStep S key now n s = .ok (q, E)) : q.l = [] := by
  cases hn : numOf s with
  | none => rw [byStep_none hn] at h; cases h
  | some m =>
    by_cases ho : okSum m n
    · rw [byStep_ok hn ho] at h; rw [putR_rep h]
    · rw [byStep_over hn ho] at h; cases h
theorem gBy_rep (h : gBy S key now n go = .ok (q, E)) : q.l = [] := by
  unfold gBy at h
  split at h
  · exact byStep_rep h
  · cases h
theorem RepAt.any {h' : Heap} {z : Nat} {a : Option Addr} {n c : Nat} (hq : q.l = []) (x : SL encQ h (.slice a n c) q.l) (hz : ∀ b ∈ ablk a, z ≤ b) : RepAt z h' (.agg ⟨[.int .i64 q.k, .int .i64 q.i, .string q.s, .slice a n c]⟩) q := by
  refine ⟨a, n, c, rfl, ?_, hz⟩
  rw [hq] at x ⊢
  obtain ⟨a', c', e, h1, h2⟩ := x
  cases e
  refine ⟨_, _, rfl, h1, ?_⟩
  cases a with
  | none => exact h2
  | some a' =>
    obtain ⟨b, o, sp⟩ := a'
    cases sp with
    | none => intro i v hv; simp at hv
    | some z => exact h2

theorem AS.by {h1 : Heap} {b2 : Nat} {res : Except ByteArray (Rep × List Eff)} {K : Value → Heap → Prop} {Qp : List PanicEntry → Heap → Prop} (x : AS h0 h ab kb now av A lv []) (kr0 : KR h0 kb sb mb c m) (hs : Sorted m S) (hl : LaidN h0)
    (w : St (ab :: vblk lv) h h1 [.b b2 [.int .i64 0, .int .i64 0, .string ⟨#[]⟩, .slice none 0 0], asE ab kb now av lv []]) (hA : A[0]? = some key) (hn : In64 n) (hk : key.size < 281474976710656) (hT : TextS S) (hres : res = gBy S key now n (getS S key now))
    (hok : ∀ v h', v.cells.toList.length = 4 → (∀ u ∈ v.cells.toList, u.oneCell' = true) → Blk h' b2 [.int .i64 0, .int .i64 0, .string ⟨#[]⟩, .slice none 0 0] →
      (∀ h2, Put h' h2 b2 v.cells.toList → ∃ vs, vs.length = 4 ∧ Cells h2 b2 0 vs ∧ CmdR h0 h ab kb now av A lv res (.returned (.agg ⟨vs⟩)) h2) → K v h')
    (hbad : ∀ why h', CmdR h0 h ab kb now av A lv res (.panicked (stopE why)) h' → Qp (stopE why) h') : CallsH Tryz.prog 65 [ptr ab, .int .i64 n] h1 (after K Qp) := by
  have x1 := (x.out w 1 rfl).1
  refine call_out (by_calls x1 kr0 hs hl hA hn hk hT) ?_ ?_
  · rintro v h2 ⟨q, E, he, ⟨a, n', c', rfl, sl, fr⟩, lv2, x2, a2⟩
    have w2 := w.aside 1 rfl x2 a2
    refine hok _ h2 rfl ?_ (w2.get 0 rfl) fun h3 p => ?_
    · intro u hu
      have hu : u ∈ [Value.int .i64 q.k, .int .i64 q.i, .string q.s, .slice a n' c'] := hu
      simp at hu
      rcases hu with rfl | rfl | rfl | rfl <;> rfl
    · have w3 := w2.put 0 rfl p
      exact ⟨_, rfl, cells_blk (w3.get 0 rfl), x.ends w3 1 rfl (RepAt.any (gBy_rep he) sl fun b hb => by have := fr b hb; have := w.size; omega) (hres.trans he)⟩
  · rintro why h2 ⟨he, c2⟩
    exact hbad why h2 ⟨why, rfl, hres.trans he, w.chg.trans c2 (fun _ hk => hk) (fun _ hk _ => hk)⟩

def cStep (S : Space) (now n : Int) : List ByteArray → Except ByteArray (Rep × List Eff) := arg1 fun key => gBy S key now n (getS S key now)

theorem step_calls {bn on : Nat} (x : AS h0 h ab kb now av A lv []) (kr0 : KR h0 kb sb mb c m) (hs : Sorted m S) (hl : LaidN h0) (Bn : cell h bn on = some (.int .i64 n)) (hn : In64 n) (hA : ∀ s ∈ A, s.size < 281474976710656) (hT : TextS S) :
    CallsH Tryz.prog 110 [ptr ab, .pointer (some ⟨bn, on, none⟩)] h (CmdR h0 h ab kb now av A lv (cStep S now n A)) := by
  refine f110_calls (by simp) ?_
  intro b2 h1 g1
  have w := x.st.new g1
  refine x.many w 1 rfl (fun hok _ => ?_) (fun hb => x.bad w (arg1_bad hb))
  obtain ⟨key, rfl⟩ := one_arg hok
  refine Exists.intro _ (And.intro (cell_chg Bn g1.chg (by simp)) ?_)
  refine x.by kr0 hs hl w rfl hn (hA key (by simp)) hT rfl (fun v h2 l4 h1 B hend => ?_) fun why h2 hb => hb
  refine Exists.intro _ (And.intro B (And.intro (by simp) (And.intro l4 (And.intro h1 ?_))))
  intro h3 p3
  rw [four rfl l4] at p3
  exact hend h3 p3

def gIncr (S : Space) (key : ByteArray) (now : Int) : Option Int → Except ByteArray (Rep × List Eff)
  | none => .error wNum
  | some n => gBy S key now n (getS S key now)
def cIncrby (S : Space) (now : Int) : List ByteArray → Except ByteArray (Rep × List Eff) := arg2 fun key s => gIncr S key now (numOf s)

theorem incrby_calls (x : AS h0 h ab kb now av A lv []) (kr0 : KR h0 kb sb mb c m) (hs : Sorted m S) (hl : LaidN h0) (hA : ∀ s ∈ A, s.size < 281474976710656) (hT : TextS S) :
    CallsH Tryz.prog 63 [ptr ab] h (CmdR h0 h ab kb now av A lv (cIncrby S now A)) := by
  refine f63_calls (by simp) ?_
  intro b2 h1 g1
  have w := x.st.new g1
  refine x.many w 1 rfl (fun hok _ => ?_) (fun hb => x.bad w (arg2_bad hb))
  obtain ⟨key, s, rfl⟩ := two_arg hok
  rw [show cIncrby S now [key, s] = gIncr S key now (numOf s) from rfl]
  refine x.num (j := 1) hl (by simp) (hA _ (by simp)) w 1 rfl (fun h2 n hn w => ?_) (fun h2 hn w => x.bad w (by rw [show numOf s = none from hn]; rfl))
  have hn : numOf s = some n := hn
  refine x.by kr0 hs hl w rfl (numOf_in hn) (hA key (by simp)) hT (by rw [hn]; rfl) (fun v h2 l4 h1 B hend => ?_) fun why h2 hb => hb
  refine Exists.intro _ (And.intro B (And.intro (by simp) (And.intro l4 (And.intro h1 ?_))))
  intro h3 p3
  rw [four rfl l4] at p3
  exact hend h3 p3

def gMore (S : Space) (key a : ByteArray) (now : Int) (go : Option Thing) : Except ByteArray (Rep × List Eff) :=
  if okT go = true then putR S key ((go.getD zeroT).text ++ a) now true (rep 3 ((go.getD zeroT).text.size + a.size) noText) else .error wType
theorem gMore_no (h : t.kind ≠ 1) : gMore S key a now (some t) = .error wType := if_neg (by simp [okT, h])
def cMore (S : Space) (now : Int) : List ByteArray → Except ByteArray (Rep × List Eff) := arg2 fun key a => gMore S key a now (getS S key now)

theorem more_calls (x : AS h0 h ab kb now av A lv []) (kr0 : KR h0 kb sb mb c m) (hs : Sorted m S) (hA : ∀ s ∈ A, s.size < 281474976710656) (hT : TextS S) :
    CallsH Tryz.prog 67 [ptr ab] h (CmdR h0 h ab kb now av A lv (cMore S now A)) := by
  refine f67_calls (by simp) ?_
  intro b2 h1 g1
  have w := x.st.new g1
  refine x.many w 1 rfl (fun hok _ => ?_) (fun hb => x.bad w (arg2_bad hb))
  obtain ⟨key, a, rfl⟩ := two_arg hok
  obtain ⟨b, o, cc, rfl⟩ := x.argF (by simp)
  rw [show cMore S now [key, a] = gMore S key a now (getS S key now) from rfl]
  refine w.lda 1 rfl rfl ?_
  refine x.ix (x.base w) 0 rfl rfl ?_
  refine x.text kr0 hs w 1 rfl (fun h2 hk w => ?_) (fun h2 t ht hk w => x.bad w (by rw [ht]; exact gMore_no hk))
  obtain ⟨go, hgo⟩ : ∃ go, go = getS S key now := ⟨_, rfl⟩
  rw [← hgo] at hk ⊢
  have hz := go_text hT hgo
  have hza := hA a (by simp)
  have hzk := hA key (by simp)
  rw [show gMore S key a now go = putR S key ((go.getD zeroT).text ++ a) now true (rep 3 ((go.getD zeroT).text.size + a.size) noText) from if_pos (okT_yes hk)]
  refine w.lda 1 rfl rfl ?_
  refine x.ix (x.base w) 0 rfl rfl ?_
  refine w.lda 1 rfl rfl ?_
  refine x.ix (x.base w) 1 rfl rfl ?_
  refine And.intro (by omega) ?_
  have hcat : ((go.getD zeroT).text ++ a).size < 4611686018427387904 := by rw [ByteArray.size_append]; omega
  refine x.put kr0 hs w 1 rfl (by simp) (by omega) hcat (fun _ h4 lv2 hfit w => ?_) (fun hb => x.bad w (if_neg hb))
  refine w.lda 1 rfl rfl ?_
  refine x.ix (x.base w) 1 rfl rfl ?_
  refine And.intro rfl (fun z hz9 => ?_)
  have hz9 := add_in hz9 (by omega) (by omega)
  subst hz9
  refine w.callv Bnumber_calls fun h5 w => ?_
  refine w.st1 0 rfl rfl rfl rfl fun h6 w => ?_
  exact x.fin w 0 1 rfl rfl (if_pos hfit)
end

end Go.Proofs.YtgmkldaonkbjgaaGreatDoor
namespace Go.Proofs.YtgmkldaonkbjgaaGreatDoor
open Go Go.Sx Go.Proofs.YtgmkldaonkbjgaaGreatDoor.C

theorem do_D : SoundD Tryz.prog 11 46 f11 [.cn 6 4, .c1 7, .t 8] := soundD_of (fl := true) mixed Tryz.func11 rfl (by kernel_rfl) (by kernel_rfl) (by kernel_rfl)
theorem dodef_F : SoundF Tryz.prog 26 14 f26 [] := soundF_of (fl := true) mixed Tryz.func26 rfl (by kernel_rfl) (by kernel_rfl) (by kernel_rfl)

theorem dodef_calm {h : Heap} {b6 b7 : Nat} : DefH Tryz.prog 26 [ptr b6, ptr b7] .returning h fun e u' h' => (∃ v, e = .returned v) ∧ u' = .returning ∧ h' = h := by
  refine dodef_F (by simp) ?_
  exact ⟨rfl, ⟨_, rfl⟩, rfl, rfl⟩

theorem BFail_calls {h : Heap} {s : ByteArray} : CallsH Tryz.prog 27 [.string s] h (Ret fun r h' => r = repV 2 0 s ∧ Chg [] h h') := by
  refine f27_calls (by simp) ?_
  intro b h1 g1
  refine Exists.intro _ (And.intro g1.blk (And.intro (by decide) (And.intro rfl (And.intro (repV_ones 2 0 s) ?_))))
  intro h2 p2
  have g2 := g1.put p2
  exact ⟨_, rfl, cells_blk g2.blk, rfl, g2.chg⟩

theorem dodef_stop {h : Heap} {b6 b7 : Nat} {why : ByteArray} {r4 : List Value} {lv : Value} (B6 : Blk h b6 r4) (hr : r4.length = 4) (B7 : Blk h b7 [lv]) (hne : b6 ≠ b7) :
    DefH Tryz.prog 26 [ptr b6, ptr b7] (.panicking (stopE why)) h fun e u' h' => (∃ v, e = .returned v) ∧ u' = .panicking [{ v := .iface 80 (.agg #[.string why]), recovered := true }] ∧
      Blk h' b6 [.int .i64 2, .int .i64 0, .string why, .slice none 0 0] ∧ Blk h' b7 [.slice none 0 0] ∧ Chg [b6, b7] h h' := by
  refine dodef_F (by simp) ?_
  have l6 := B6.lt
  have l7 := B7.lt
  refine And.intro (fun _ => ?_) (fun hne => absurd rfl hne)
  intro b3 h1 g1
  refine Exists.intro _ (And.intro g1.blk (And.intro (by decide) (And.intro rfl (And.intro (ones1 rfl) ?_))))
  intro h2 p2
  have g2 := g1.put p2
  have B3 : Blk h2 b3 [.string why] := p2.blk
  refine Exists.intro _ (And.intro (cell_blk B3 rfl) ?_)
  refine call_ret BFail_calls ?_
  rintro _ h3 ⟨rfl, c3⟩
  have c03 := g2.chg.nil c3
  refine Exists.intro _ (And.intro (B6.chg c03 (by simp)) (And.intro (by rw [hr]; decide) (And.intro rfl (And.intro (repV_ones 2 0 why) ?_))))
  intro h4 p4
  have B64 : Blk h4 b6 [.int .i64 2, .int .i64 0, .string why, .slice none 0 0] := by
    have h9 : Blk h4 b6 (splice r4 0 [.int .i64 2, .int .i64 0, .string why, .slice none 0 0]) := p4.blk
    rw [four hr rfl] at h9
    exact h9
  refine Exists.intro _ (And.intro ((B7.chg c03 (by simp)).chg p4.chg (by simp; omega)) (And.intro (by simp) (And.intro rfl (And.intro (ones1 rfl) ?_))))
  intro h5 p5
  have B75 : Blk h5 b7 [.slice none 0 0] := p5.blk
  have c5 : Chg [b6, b7] h h5 := ((c03.mono (by simp)).trans p4.chg (fun _ hx => hx) (fun x hx _ => by simp at hx; simp [hx])).trans p5.chg (fun _ hx => hx) (fun x hx _ => by simp at hx; simp [hx])
  exact ⟨rfl, ⟨_, rfl⟩, rfl, B64.chg p5.chg (by simp; omega), B75, c5⟩

end Go.Proofs.YtgmkldaonkbjgaaGreatDoor
set_option maxRecDepth 100000
namespace Go.Proofs.YtgmkldaonkbjgaaGreatDoor.C
open Go Go.Sx Go.Sx.S


def f25r0 : List SOper := [
 o 2 (.mv e)]
def f25r1 : List SOper := [
 o 6 (.mv (t 0)),
 o 7 (.byts (t 6)),
 o 3 (.mv (t 7))]
def f25r2 : List SOper := [
 o 8 (.mv (t 3)),
 o 9 (.len (t 8)),
 o 10 (.mv (i 0))]
def f25r3 : List SOper := [
 o 11 (.cmp .lss (t 10) (t 9))]
def f25r4 : List SOper := [
 o 12 (.mv (t 10)),
 o 13 (.ixs 1 (t 8) (t 10)),
 o 14 (.ld1 (t 13)),
 o 4 (.mv (t 12)),
 o 5 (.mv (t 14))]
def f25r5 : List SOper := [
 o 15 (.mv (t 5)),
 o 16 (.cmp .geq (t 15) (.const (.int .u8 97))),
 o 17 (.mv (t 16)),
 g 18 17 (.mv (t 5)),
 g 19 17 (.cmp .leq (t 18) (.const (.int .u8 122))),
 o 20 (.pick (t 17) (t 19) (b false))]
def f25r6 : List SOper := [
 o 21 (.mv (t 3)),
 o 22 (.mv (t 4)),
 o 23 (.mv (t 5)),
 o 24 (.ar .sub (t 23) (.const (.int .u8 97))),
 o 25 (.ar .add (t 24) (.const (.int .u8 65))),
 o 26 (.ixs 1 (t 21) (t 22)),
 q (.stb (t 26) (t 25))]
def f25r7 : List SOper := [
 o 27 (.ar .add (t 10) (i 1)),
 o 10 (.mv (t 27))]
def f25l8 : SCode := (.seq (.ops f25r3) (.seq (.cond (t 11) .skip (.exit 0)) (.seq (.block 1 (.seq (.ops f25r4) (.seq (.ops f25r5) (.cond (t 20) (.ops f25r6) .skip)))) (.ops f25r7))))
def f25r9 : List SOper := [
 o 28 (.mv (t 3)),
 o 29 (.bstr (t 28)),
 o 2 (.mv (t 29))]
def f25 : SCode := (.seq (.ops f25r0) (.seq (.ops f25r1) (.seq (.seq (.ops f25r2) (.block 0 (.loop f25l8))) (.seq (.ops f25r9) .ret))))
theorem f25_calls : Sound Tryz.prog 25 30 f25 [.t 2] := sound_of mixed Tryz.func25 rfl (by kernel_rfl) (by kernel_rfl) (by kernel_rfl)

end Go.Proofs.YtgmkldaonkbjgaaGreatDoor.C
set_option maxRecDepth 100000
namespace Go.Proofs.YtgmkldaonkbjgaaGreatDoor.C
open Go Go.Sx Go.Sx.S


def f8r0 : List SOper := [
 o 0 (.mv (b false))]
def f8r1 : List SOper := [
 o 5 (.call 15 []),
 o 1 (.mv (t 5))]
def f8r2 : List SOper := [
 o 7 (.mv (t 1)),
 o 8 (.bslice [(.string ⟨#[]⟩), (.string ⟨#[]⟩)] 2 [(0, 1), (1, 1)] [(.const (.string ⟨#[105, 110, 99, 114]⟩)), (.const (.string ⟨#[97]⟩))]),
 o 9 (.call 11 [(t 7), (i 0), (t 8)]),
 o 6 (.mv (t 9)),
 o 10 (.ext (t 6) 0),
 o 11 (.ext (t 6) 1),
 o 12 (.ext (t 6) 2),
 o 2 (.new [(.int .i64 0), (.int .i64 0), (.string ⟨#[]⟩), (.slice none 0 0)]),
 q (.st 4 (t 2) (t 10)),
 o 3 (.mv (t 11)),
 o 4 (.mv (t 12))]
def f8r3 : List SOper := [
 o 13 (.mv (t 4)),
 o 14 (.mv (t 13)),
 g 15 14 (.fa 0 (t 2)),
 g 16 14 (.ld1 (t 15)),
 g 17 14 (.cmp .eql (t 16) (i 3)),
 o 18 (.pick (t 14) (t 17) (b false)),
 o 19 (.mv (t 18)),
 g 20 19 (.fa 1 (t 2)),
 g 21 19 (.ld1 (t 20)),
 g 22 19 (.cmp .eql (t 21) (i 1)),
 o 23 (.pick (t 19) (t 22) (b false)),
 o 24 (.mv (t 23)),
 g 25 24 (.mv (t 3)),
 g 26 24 (.len (t 25)),
 g 27 24 (.cmp .eql (t 26) (i 1)),
 o 28 (.pick (t 24) (t 27) (b false)),
 o 29 (.mv (t 28)),
 g 30 29 (.mv (t 3)),
 g 31 29 (.ixs 5 (t 30) (i 0)),
 g 32 29 (.fa 0 (t 31)),
 g 33 29 (.ld1 (t 32)),
 g 34 29 (.cmp .eql (t 33) (i 2)),
 o 35 (.pick (t 29) (t 34) (b false)),
 o 36 (.mv (t 35)),
 g 37 36 (.mv (t 3)),
 g 38 36 (.ixs 5 (t 37) (i 0)),
 g 39 36 (.fa 3 (t 38)),
 g 40 36 (.ld1 (t 39)),
 g 41 36 (.cmp .eql (t 40) (.const (.string ⟨#[49]⟩))),
 o 42 (.pick (t 36) (t 41) (b false)),
 o 0 (.mv (t 42))]
def f8 : SCode := (.seq (.ops f8r0) (.seq (.ops f8r1) (.seq (.ops f8r2) (.seq (.ops f8r3) .ret))))
theorem f8_calls : Sound Tryz.prog 8 43 f8 [.t 0] := sound_of mixed Tryz.func8 rfl (by kernel_rfl) (by kernel_rfl) (by kernel_rfl)

def f24r0 : List SOper := [
 o 0 (.mv (.const (.map none)))]
def f24r1 : List SOper := [
 o 1 (.mkm),
 q (.mup .str (t 1) (.const (.string ⟨#[83, 69, 84]⟩)) (u 57)),
 q (.mup .str (t 1) (.const (.string ⟨#[71, 69, 84]⟩)) (u 58)),
 q (.mup .str (t 1) (.const (.string ⟨#[68, 69, 76]⟩)) (u 59)),
 q (.mup .str (t 1) (.const (.string ⟨#[69, 88, 73, 83, 84, 83]⟩)) (u 60)),
 q (.mup .str (t 1) (.const (.string ⟨#[84, 89, 80, 69]⟩)) (u 61)),
 o 2 (.call 62 [(i 1)]),
 q (.mup .str (t 1) (.const (.string ⟨#[73, 78, 67, 82]⟩)) (t 2)),
 o 3 (.call 62 [(i (-1))]),
 q (.mup .str (t 1) (.const (.string ⟨#[68, 69, 67, 82]⟩)) (t 3)),
 q (.mup .str (t 1) (.const (.string ⟨#[73, 78, 67, 82, 66, 89]⟩)) (u 63)),
 q (.mup .str (t 1) (.const (.string ⟨#[65, 80, 80, 69, 78, 68]⟩)) (u 67)),
 q (.mup .str (t 1) (.const (.string ⟨#[83, 84, 82, 76, 69, 78]⟩)) (u 68)),
 q (.mup .str (t 1) (.const (.string ⟨#[77, 71, 69, 84]⟩)) (u 69)),
 q (.mup .str (t 1) (.const (.string ⟨#[77, 83, 69, 84]⟩)) (u 70)),
 q (.mup .str (t 1) (.const (.string ⟨#[80, 69, 88, 80, 73, 82, 69]⟩)) (u 71)),
 q (.mup .str (t 1) (.const (.string ⟨#[80, 69, 82, 83, 73, 83, 84]⟩)) (u 72)),
 q (.mup .str (t 1) (.const (.string ⟨#[80, 84, 84, 76]⟩)) (u 73)),
 q (.mup .str (t 1) (.const (.string ⟨#[75, 69, 89, 83]⟩)) (u 74)),
 q (.mup .str (t 1) (.const (.string ⟨#[68, 66, 83, 73, 90, 69]⟩)) (u 75)),
 q (.mup .str (t 1) (.const (.string ⟨#[70, 76, 85, 83, 72, 65, 76, 76]⟩)) (u 76)),
 o 4 (.mv (t 1)),
 o 0 (.mv (t 4))]
def f24 : SCode := (.seq (.ops f24r0) (.seq (.ops f24r1) .ret))
theorem f24_calls : Sound Tryz.prog 24 5 f24 [.t 0] := sound_of mixed Tryz.func24 rfl (by kernel_rfl) (by kernel_rfl) (by kernel_rfl)

def f62r0 : List SOper := [
 o 1 (.box (t 0)),
 o 2 (.mv (.const .nilFunc))]
def f62r1 : List SOper := [
 o 3 (.fn 110 [] [(t 1)]),
 o 2 (.mv (t 3))]
def f62 : SCode := (.seq (.ops f62r0) (.seq (.ops f62r1) .ret))
theorem f62_calls : Sound Tryz.prog 62 4 f62 [.t 2] := sound_of mixed Tryz.func62 rfl (by kernel_rfl) (by kernel_rfl) (by kernel_rfl)

end Go.Proofs.YtgmkldaonkbjgaaGreatDoor.C
set_option maxRecDepth 100000
namespace Go.Proofs.YtgmkldaonkbjgaaGreatDoor.C
open Go Go.Sx Go.Sx.S


def f3r0 : List SOper := [
 o 3 (.box (t 0)),
 o 6 (.mv (b false))]
def f3r1 : List SOper := [
 o 8 (.ldn 8 (t 3)),
 o 9 (.bslice [(.string ⟨#[]⟩), (.int .i64 0), (.string ⟨#[]⟩), (.slice none 0 0), (.slice none 0 0), (.slice none 0 0), (.bool false), (.int .i64 0)] 1 [(0, 8)] [(t 8)]),
 o 7 (.mv (t 9))]
def f3r2 : List SOper := [
 o 10 (.mv (t 7)),
 o 11 (.mv (t 2)),
 o 12 (.bslice [(.string ⟨#[]⟩)] 1 [(0, 1)] [(t 11)]),
 o 13 (.call 7 [(t 10), (t 12)])]
def f3r3 : List SOper := [
 o 14 (.call 8 []),
 o 6 (.mv (t 14))]
def f3r4 : List SOper := [
 o 15 (.mv (t 7)),
 o 16 (.mv (t 1)),
 o 17 (.fa 0 (t 3)),
 o 18 (.ld1 (t 17)),
 o 19 (.mv (t 2)),
 o 20 (.bslice [(.string ⟨#[]⟩), (.string ⟨#[]⟩), (.string ⟨#[]⟩)] 3 [(0, 1), (1, 1), (2, 1)] [(.const (.string ⟨#[73, 78, 67, 82, 66, 89]⟩)), (t 18), (t 19)]),
 o 21 (.call 9 [(t 15), (t 16), (t 20)]),
 o 22 (.mv (t 21)),
 g 23 22 (.mv (t 7)),
 g 24 22 (.mv (t 1)),
 g 25 22 (.fa 0 (t 3)),
 g 26 22 (.ld1 (t 25)),
 g 27 22 (.bslice [(.string ⟨#[]⟩), (.string ⟨#[]⟩)] 2 [(0, 1), (1, 1)] [(.const (.string ⟨#[73, 78, 67, 82]⟩)), (t 26)]),
 g 28 22 (.call 9 [(t 23), (t 24), (t 27)]),
 o 29 (.pick (t 22) (t 28) (b false)),
 o 30 (.mv (t 29)),
 g 31 30 (.mv (t 7)),
 g 32 30 (.mv (t 1)),
 g 33 30 (.fa 0 (t 3)),
 g 34 30 (.ld1 (t 33)),
 g 35 30 (.bslice [(.string ⟨#[]⟩), (.string ⟨#[]⟩)] 2 [(0, 1), (1, 1)] [(.const (.string ⟨#[68, 69, 67, 82]⟩)), (t 34)]),
 g 36 30 (.call 9 [(t 31), (t 32), (t 35)]),
 o 37 (.pick (t 30) (t 36) (b false)),
 o 38 (.mv (t 37)),
 g 39 38 (.mv (t 7)),
 g 40 38 (.mv (t 1)),
 g 41 38 (.fa 0 (t 3)),
 g 42 38 (.ld1 (t 41)),
 g 43 38 (.mv (t 2)),
 g 44 38 (.bslice [(.string ⟨#[]⟩), (.string ⟨#[]⟩), (.string ⟨#[]⟩)] 3 [(0, 1), (1, 1), (2, 1)] [(.const (.string ⟨#[65, 80, 80, 69, 78, 68]⟩)), (t 42), (t 43)]),
 g 45 38 (.call 9 [(t 39), (t 40), (t 44)]),
 o 46 (.pick (t 38) (t 45) (b false)),
 o 47 (.mv (t 46)),
 g 48 47 (.mv (t 7)),
 g 49 47 (.mv (t 1)),
 g 50 47 (.fa 0 (t 3)),
 g 51 47 (.ld1 (t 50)),
 g 52 47 (.bslice [(.string ⟨#[]⟩), (.string ⟨#[]⟩)] 2 [(0, 1), (1, 1)] [(.const (.string ⟨#[83, 84, 82, 76, 69, 78]⟩)), (t 51)]),
 g 53 47 (.call 9 [(t 48), (t 49), (t 52)]),
 o 54 (.pick (t 47) (t 53) (b false)),
 o 55 (.mv (t 54)),
 g 56 55 (.mv (t 7)),
 g 57 55 (.mv (t 1)),
 g 58 55 (.fa 0 (t 3)),
 g 59 55 (.ld1 (t 58)),
 g 60 55 (.bslice [(.string ⟨#[]⟩), (.string ⟨#[]⟩)] 2 [(0, 1), (1, 1)] [(.const (.string ⟨#[71, 69, 84]⟩)), (t 59)]),
 g 61 55 (.call 9 [(t 56), (t 57), (t 60)]),
 o 62 (.pick (t 55) (t 61) (b false)),
 o 63 (.mv (t 62)),
 g 64 63 (.call 8 []),
 o 65 (.pick (t 63) (t 64) (b false)),
 o 6 (.mv (t 65))]
def f3 : SCode := (.seq (.ops f3r0) (.seq (.ops f3r1) (.seq (.seq (.ops f3r2) (.cond (t 13) (.seq (.ops f3r3) .ret) .skip)) (.seq (.ops f3r4) .ret))))
def f4r0 : List SOper := [
 o 6 (.mv (b false))]
def f4r1 : List SOper := [
 o 13 (.mv (t 0)),
 o 14 (.mv (t 2)),
 o 15 (.call 7 [(t 13), (t 14)]),
 o 16 (.mv (t 15)),
 n 17 16 (.mv (t 2)),
 n 18 16 (.len (t 17)),
 n 19 16 (.cmp .gtr (t 18) (i 10)),
 o 20 (.pick (t 16) (b true) (t 19))]
def f4r2 : List SOper := [
 o 21 (.call 8 []),
 o 6 (.mv (t 21))]
def f4r3 : List SOper := [
 o 7 (.mv (.const (.slice none 0 0)))]
def f4r4 : List SOper := [
 o 8 (.mv (i 0))]
def f4r5 : List SOper := [
 o 22 (.mv (t 8)),
 o 23 (.mv (t 2)),
 o 24 (.len (t 23)),
 o 25 (.cmp .lss (t 22) (t 24))]
def f4r6 : List SOper := [
 o 28 (.mv (t 7)),
 o 29 (.mv (t 2)),
 o 30 (.mv (t 8)),
 o 31 (.ixs 1 (t 29) (t 30)),
 o 32 (.ld1 (t 31)),
 o 33 (.bslice [(.string ⟨#[]⟩), (.string ⟨#[]⟩)] 2 [(0, 1), (1, 1)] [(t 32), (.const (.string ⟨#[118]⟩))]),
 o 34 (.app 1 16 [(.string ⟨#[]⟩)] (t 28) (t 33)),
 o 7 (.mv (t 34))]
def f4r7 : List SOper := [
 o 26 (.mv (t 8)),
 o 27 (.ar .add (t 26) (i 1)),
 o 8 (.mv (t 27))]
def f4l8 : SCode := (.seq (.seq (.ops f4r5) (.cond (t 25) .skip (.exit 0))) (.seq (.block 1 (.ops f4r6)) (.ops f4r7)))
def f4r9 : List SOper := [
 o 35 (.bslice [(.string ⟨#[]⟩)] 1 [(0, 1)] [(.const (.string ⟨#[68, 69, 76]⟩))]),
 o 36 (.mv (t 2)),
 o 37 (.app 1 16 [(.string ⟨#[]⟩)] (t 35) (t 36)),
 o 38 (.bslice [(.string ⟨#[]⟩)] 1 [(0, 1)] [(.const (.string ⟨#[69, 88, 73, 83, 84, 83]⟩))]),
 o 39 (.mv (t 2)),
 o 40 (.app 1 16 [(.string ⟨#[]⟩)] (t 38) (t 39)),
 o 41 (.bslice [(.string ⟨#[]⟩)] 1 [(0, 1)] [(.const (.string ⟨#[77, 71, 69, 84]⟩))]),
 o 42 (.mv (t 2)),
 o 43 (.app 1 16 [(.string ⟨#[]⟩)] (t 41) (t 42)),
 o 44 (.bslice [(.string ⟨#[]⟩)] 1 [(0, 1)] [(.const (.string ⟨#[77, 83, 69, 84]⟩))]),
 o 45 (.mv (t 7)),
 o 46 (.app 1 16 [(.string ⟨#[]⟩)] (t 44) (t 45)),
 o 9 (.mv (t 37)),
 o 10 (.mv (t 40)),
 o 11 (.mv (t 43)),
 o 12 (.mv (t 46))]
def f4r10 : List SOper := [
 o 47 (.mv (t 0)),
 o 48 (.mv (t 1)),
 o 49 (.mv (t 9)),
 o 50 (.call 9 [(t 47), (t 48), (t 49)]),
 o 51 (.mv (t 50)),
 g 52 51 (.mv (t 0)),
 g 53 51 (.mv (t 1)),
 g 54 51 (.mv (t 10)),
 g 55 51 (.call 9 [(t 52), (t 53), (t 54)]),
 o 56 (.pick (t 51) (t 55) (b false)),
 o 57 (.mv (t 56)),
 g 58 57 (.mv (t 0)),
 g 59 57 (.mv (t 1)),
 g 60 57 (.mv (t 11)),
 g 61 57 (.call 9 [(t 58), (t 59), (t 60)]),
 o 62 (.pick (t 57) (t 61) (b false)),
 o 63 (.mv (t 62)),
 g 64 63 (.mv (t 0)),
 g 65 63 (.mv (t 1)),
 g 66 63 (.mv (t 12)),
 g 67 63 (.call 9 [(t 64), (t 65), (t 66)]),
 o 68 (.pick (t 63) (t 67) (b false)),
 o 69 (.mv (t 68)),
 g 70 69 (.mv (t 0)),
 g 71 69 (.mv (t 1)),
 g 72 69 (.bslice [(.string ⟨#[]⟩)] 1 [(0, 1)] [(.const (.string ⟨#[75, 69, 89, 83]⟩))]),
 g 73 69 (.call 9 [(t 70), (t 71), (t 72)]),
 o 74 (.pick (t 69) (t 73) (b false)),
 o 75 (.mv (t 74)),
 g 76 75 (.mv (t 0)),
 g 77 75 (.mv (t 1)),
 g 78 75 (.bslice [(.string ⟨#[]⟩)] 1 [(0, 1)] [(.const (.string ⟨#[68, 66, 83, 73, 90, 69]⟩))]),
 g 79 75 (.call 9 [(t 76), (t 77), (t 78)]),
 o 80 (.pick (t 75) (t 79) (b false)),
 o 81 (.mv (t 80)),
 g 82 81 (.mv (t 0)),
 g 83 81 (.mv (t 1)),
 g 84 81 (.bslice [(.string ⟨#[]⟩)] 1 [(0, 1)] [(.const (.string ⟨#[70, 76, 85, 83, 72, 65, 76, 76]⟩))]),
 g 85 81 (.call 9 [(t 82), (t 83), (t 84)]),
 o 86 (.pick (t 81) (t 85) (b false)),
 o 87 (.mv (t 86)),
 g 88 87 (.call 8 []),
 o 89 (.pick (t 87) (t 88) (b false)),
 o 6 (.mv (t 89))]
def f4 : SCode := (.seq (.ops f4r0) (.seq (.seq (.ops f4r1) (.cond (t 20) (.seq (.ops f4r2) .ret) .skip)) (.seq (.ops f4r3) (.seq (.seq (.ops f4r4) (.block 0 (.loop f4l8))) (.seq (.ops f4r9) (.seq (.ops f4r10) .ret))))))
def f5r0 : List SOper := [
 o 6 (.mv (b false))]
def f5r1 : List SOper := [
 o 14 (.mv (t 0)),
 o 15 (.mv (t 2)),
 o 16 (.call 7 [(t 14), (t 15)])]
def f5r2 : List SOper := [
 o 17 (.call 8 []),
 o 6 (.mv (t 17))]
def f5r3 : List SOper := [
 o 19 (.mv (t 0)),
 o 20 (.call 10 [(t 19)]),
 o 18 (.mv (t 20)),
 o 21 (.ext (t 18) 0),
 o 22 (.ext (t 18) 1),
 o 7 (.mv (t 21)),
 o 8 (.mv (t 22))]
def f5r4 : List SOper := [
 o 23 (.mv (t 8)),
 o 24 (.cmp .neq (t 23) (i 0))]
def f5r5 : List SOper := [
 o 25 (.mv (t 7)),
 o 26 (.eqn 0 false (t 25)),
 o 27 (.mv (t 26)),
 g 28 27 (.call 8 []),
 o 29 (.pick (t 27) (t 28) (b false)),
 o 6 (.mv (t 29))]
def f5r6 : List SOper := [
 o 31 (.mv (t 7)),
 o 32 (.mv (t 1)),
 o 33 (.mv (t 2)),
 o 34 (.call 11 [(t 31), (t 32), (t 33)]),
 o 30 (.mv (t 34)),
 o 35 (.ext (t 30) 0),
 o 36 (.ext (t 30) 1),
 o 37 (.ext (t 30) 2),
 o 9 (.new [(.int .i64 0), (.int .i64 0), (.string ⟨#[]⟩), (.slice none 0 0)]),
 q (.st 4 (t 9) (t 35)),
 o 10 (.mv (t 36)),
 o 11 (.mv (t 37))]
def f5r7 : List SOper := [
 o 38 (.mv (t 11)),
 o 39 (.un .not (t 38)),
 o 40 (.mv (t 39)),
 n 41 40 (.fa 0 (t 9)),
 n 42 40 (.ld1 (t 41)),
 n 43 40 (.cmp .eql (t 42) (i 2)),
 o 44 (.pick (t 40) (b true) (t 43))]
def f5r8 : List SOper := [
 o 45 (.mv (t 10)),
 o 46 (.len (t 45)),
 o 47 (.cmp .eql (t 46) (i 0)),
 o 48 (.mv (t 47)),
 g 49 48 (.call 8 []),
 o 50 (.pick (t 48) (t 49) (b false)),
 o 6 (.mv (t 50))]
def f5r9 : List SOper := [
 o 52 (.mv (t 7)),
 o 53 (.mv (t 10)),
 o 54 (.call 12 [(t 52), (t 53)]),
 o 51 (.mv (t 54)),
 o 55 (.ext (t 51) 0),
 o 56 (.ext (t 51) 1),
 o 12 (.mv (t 55)),
 o 13 (.mv (t 56))]
def f5r10 : List SOper := [
 o 57 (.mv (t 12)),
 o 58 (.mv (t 10)),
 o 59 (.len (t 58)),
 o 60 (.cmp .eql (t 57) (t 59)),
 o 61 (.mv (t 60)),
 g 62 61 (.mv (t 13)),
 g 63 61 (.cmp .eql (t 62) (i 0)),
 o 64 (.pick (t 61) (t 63) (b false)),
 o 65 (.mv (t 64)),
 g 66 65 (.call 8 []),
 o 67 (.pick (t 65) (t 66) (b false)),
 o 6 (.mv (t 67))]
def f5 : SCode := (.seq (.ops f5r0) (.seq (.seq (.ops f5r1) (.cond (t 16) (.seq (.ops f5r2) .ret) .skip)) (.seq (.ops f5r3) (.seq (.seq (.ops f5r4) (.cond (t 24) (.seq (.ops f5r5) .ret) .skip)) (.seq (.ops f5r6) (.seq (.seq (.ops f5r7) (.cond (t 44) (.seq (.ops f5r8) .ret) .skip)) (.seq (.ops f5r9) (.seq (.ops f5r10) .ret))))))))
theorem f5_calls : Sound Tryz.prog 5 68 f5 [.t 6] := sound_of mixed Tryz.func5 rfl (by kernel_rfl) (by kernel_rfl) (by kernel_rfl)

def f6r0 : List SOper := [
 o 3 (.box (t 1)),
 o 4 (.mv (b false))]
def f6r1 : List SOper := [
 o 24 (.mv (t 0)),
 o 25 (.fa 0 (t 3)),
 o 26 (.ld1 (t 25)),
 o 27 (.fa 1 (t 3)),
 o 28 (.ld1 (t 27)),
 o 29 (.bslice [(.string ⟨#[]⟩), (.string ⟨#[]⟩)] 2 [(0, 1), (1, 1)] [(t 26), (t 28)]),
 o 30 (.call 7 [(t 24), (t 29)]),
 o 31 (.mv (t 30)),
 n 32 31 (.fa 2 (t 3)),
 n 33 31 (.ld1 (t 32)),
 n 34 31 (.cmp .lss (t 33) (i 0)),
 o 35 (.pick (t 31) (b true) (t 34)),
 o 36 (.mv (t 35)),
 n 37 36 (.fa 2 (t 3)),
 n 38 36 (.ld1 (t 37)),
 n 39 36 (.cmp .gtr (t 38) (i 1099511627776)),
 o 40 (.pick (t 36) (b true) (t 39)),
 o 41 (.mv (t 40)),
 n 42 41 (.fa 3 (t 3)),
 n 43 41 (.ld1 (t 42)),
 n 44 41 (.cmp .lss (t 43) (i 1)),
 o 45 (.pick (t 41) (b true) (t 44)),
 o 46 (.mv (t 45)),
 n 47 46 (.fa 3 (t 3)),
 n 48 46 (.ld1 (t 47)),
 n 49 46 (.cmp .gtr (t 48) (i 1099511627776)),
 o 50 (.pick (t 46) (b true) (t 49))]
def f6r2 : List SOper := [
 o 51 (.call 8 []),
 o 4 (.mv (t 51))]
def f6r3 : List SOper := [
 o 53 (.mv (t 0)),
 o 54 (.call 10 [(t 53)]),
 o 52 (.mv (t 54)),
 o 55 (.ext (t 52) 0),
 o 56 (.ext (t 52) 1),
 o 5 (.mv (t 55)),
 o 6 (.mv (t 56))]
def f6r4 : List SOper := [
 o 57 (.mv (t 6)),
 o 58 (.cmp .neq (t 57) (i 0))]
def f6r5 : List SOper := [
 o 59 (.mv (t 5)),
 o 60 (.eqn 0 false (t 59)),
 o 61 (.mv (t 60)),
 g 62 61 (.call 8 []),
 o 63 (.pick (t 61) (t 62) (b false)),
 o 4 (.mv (t 63))]
def f6r6 : List SOper := [
 o 65 (.mv (t 5)),
 o 66 (.fa 2 (t 3)),
 o 67 (.ld1 (t 66)),
 o 68 (.fa 0 (t 3)),
 o 69 (.ld1 (t 68)),
 o 70 (.fa 1 (t 3)),
 o 71 (.ld1 (t 70)),
 o 72 (.bslice [(.string ⟨#[]⟩), (.string ⟨#[]⟩), (.string ⟨#[]⟩)] 3 [(0, 1), (1, 1), (2, 1)] [(.const (.string ⟨#[83, 69, 84]⟩)), (t 69), (t 71)]),
 o 73 (.call 11 [(t 65), (t 67), (t 72)]),
 o 64 (.mv (t 73)),
 o 74 (.ext (t 64) 0),
 o 75 (.ext (t 64) 1),
 o 76 (.ext (t 64) 2),
 o 7 (.new [(.int .i64 0), (.int .i64 0), (.string ⟨#[]⟩), (.slice none 0 0)]),
 q (.st 4 (t 7) (t 74)),
 o 8 (.mv (t 75)),
 o 9 (.mv (t 76))]
def f6r7 : List SOper := [
 o 78 (.mv (t 5)),
 o 79 (.mv (t 8)),
 o 80 (.call 12 [(t 78), (t 79)]),
 o 77 (.mv (t 80)),
 o 81 (.ext (t 77) 0),
 o 82 (.ext (t 77) 1),
 o 10 (.mv (t 81)),
 o 11 (.mv (t 82))]
def f6r8 : List SOper := [
 o 84 (.mv (t 5)),
 o 85 (.fa 2 (t 3)),
 o 86 (.ld1 (t 85)),
 o 87 (.fa 0 (t 3)),
 o 88 (.ld1 (t 87)),
 o 89 (.bslice [(.string ⟨#[]⟩), (.string ⟨#[]⟩)] 2 [(0, 1), (1, 1)] [(.const (.string ⟨#[71, 69, 84]⟩)), (t 88)]),
 o 90 (.call 11 [(t 84), (t 86), (t 89)]),
 o 83 (.mv (t 90)),
 o 91 (.ext (t 83) 0),
 o 92 (.ext (t 83) 1),
 o 93 (.ext (t 83) 2),
 o 12 (.new [(.int .i64 0), (.int .i64 0), (.string ⟨#[]⟩), (.slice none 0 0)]),
 q (.st 4 (t 12) (t 91)),
 o 13 (.mv (t 92)),
 o 14 (.mv (t 93))]
def f6r9 : List SOper := [
 o 94 (.fa 2 (t 7)),
 o 95 (.ld1 (t 94)),
 o 96 (.cmp .neq (t 95) (.const (.string ⟨#[79, 75]⟩))),
 o 97 (.mv (t 96)),
 n 98 97 (.mv (t 11)),
 n 99 97 (.cmp .neq (t 98) (i 0)),
 o 100 (.pick (t 97) (b true) (t 99)),
 o 101 (.mv (t 100)),
 n 102 101 (.fa 0 (t 12)),
 n 103 101 (.ld1 (t 102)),
 n 104 101 (.cmp .neq (t 103) (i 4)),
 o 105 (.pick (t 101) (b true) (t 104)),
 o 106 (.mv (t 105)),
 n 107 106 (.fa 2 (t 12)),
 n 108 106 (.ld1 (t 107)),
 n 109 106 (.fa 1 (t 3)),
 n 110 106 (.ld1 (t 109)),
 n 111 106 (.cmp .neq (t 108) (t 110)),
 o 112 (.pick (t 106) (b true) (t 111)),
 o 113 (.mv (t 112)),
 n 114 113 (.mv (t 13)),
 n 115 113 (.len (t 114)),
 n 116 113 (.cmp .neq (t 115) (i 0)),
 o 117 (.pick (t 113) (b true) (t 116))]
def f6r10 : List SOper := [
 o 4 (.mv (b false))]
def f6r11 : List SOper := [
 o 119 (.mv (t 5)),
 o 120 (.fa 2 (t 3)),
 o 121 (.ld1 (t 120)),
 o 122 (.fa 0 (t 3)),
 o 123 (.ld1 (t 122)),
 o 124 (.fa 3 (t 3)),
 o 125 (.ld1 (t 124)),
 o 126 (.callq 13 [(t 125)]),
 o 127 (.bslice [(.string ⟨#[]⟩), (.string ⟨#[]⟩), (.string ⟨#[]⟩)] 3 [(0, 1), (1, 1), (2, 1)] [(.const (.string ⟨#[80, 69, 88, 80, 73, 82, 69]⟩)), (t 123), (t 126)]),
 o 128 (.callq 11 [(t 119), (t 121), (t 127)]),
 o 118 (.mv (t 128)),
 o 129 (.ext (t 118) 0),
 o 130 (.ext (t 118) 1),
 o 131 (.ext (t 118) 2),
 o 8 (.mv (t 130))]
def f6r12 : List SOper := [
 o 133 (.mv (t 5)),
 o 134 (.mv (t 8)),
 o 135 (.call 12 [(t 133), (t 134)]),
 o 132 (.mv (t 135)),
 o 136 (.ext (t 132) 0),
 o 137 (.ext (t 132) 1),
 o 11 (.mv (t 137))]
def f6r13 : List SOper := [
 o 139 (.mv (t 5)),
 o 140 (.fa 2 (t 3)),
 o 141 (.ld1 (t 140)),
 o 142 (.fa 3 (t 3)),
 o 143 (.ld1 (t 142)),
 o 144 (.ar .add (t 141) (t 143)),
 o 145 (.ar .sub (t 144) (i 1)),
 o 146 (.fa 0 (t 3)),
 o 147 (.ld1 (t 146)),
 o 148 (.bslice [(.string ⟨#[]⟩), (.string ⟨#[]⟩)] 2 [(0, 1), (1, 1)] [(.const (.string ⟨#[69, 88, 73, 83, 84, 83]⟩)), (t 147)]),
 o 149 (.call 11 [(t 139), (t 145), (t 148)]),
 o 138 (.mv (t 149)),
 o 150 (.ext (t 138) 0),
 o 151 (.ext (t 138) 1),
 o 152 (.ext (t 138) 2),
 o 15 (.new [(.int .i64 0), (.int .i64 0), (.string ⟨#[]⟩), (.slice none 0 0)]),
 q (.st 4 (t 15) (t 150)),
 o 16 (.mv (t 151)),
 o 17 (.mv (t 152))]
def f6r14 : List SOper := [
 o 154 (.mv (t 5)),
 o 155 (.fa 2 (t 3)),
 o 156 (.ld1 (t 155)),
 o 157 (.fa 3 (t 3)),
 o 158 (.ld1 (t 157)),
 o 159 (.ar .add (t 156) (t 158)),
 o 160 (.fa 0 (t 3)),
 o 161 (.ld1 (t 160)),
 o 162 (.bslice [(.string ⟨#[]⟩), (.string ⟨#[]⟩)] 2 [(0, 1), (1, 1)] [(.const (.string ⟨#[69, 88, 73, 83, 84, 83]⟩)), (t 161)]),
 o 163 (.call 11 [(t 154), (t 159), (t 162)]),
 o 153 (.mv (t 163)),
 o 164 (.ext (t 153) 0),
 o 165 (.ext (t 153) 1),
 o 166 (.ext (t 153) 2),
 o 18 (.new [(.int .i64 0), (.int .i64 0), (.string ⟨#[]⟩), (.slice none 0 0)]),
 q (.st 4 (t 18) (t 164)),
 o 19 (.mv (t 165)),
 o 20 (.mv (t 166))]
def f6r15 : List SOper := [
 o 168 (.mv (t 5)),
 o 169 (.fa 2 (t 3)),
 o 170 (.ld1 (t 169)),
 o 171 (.fa 0 (t 3)),
 o 172 (.ld1 (t 171)),
 o 173 (.bslice [(.string ⟨#[]⟩), (.string ⟨#[]⟩)] 2 [(0, 1), (1, 1)] [(.const (.string ⟨#[80, 84, 84, 76]⟩)), (t 172)]),
 o 174 (.call 11 [(t 168), (t 170), (t 173)]),
 o 167 (.mv (t 174)),
 o 175 (.ext (t 167) 0),
 o 176 (.ext (t 167) 1),
 o 177 (.ext (t 167) 2),
 o 21 (.new [(.int .i64 0), (.int .i64 0), (.string ⟨#[]⟩), (.slice none 0 0)]),
 q (.st 4 (t 21) (t 175)),
 o 22 (.mv (t 176)),
 o 23 (.mv (t 177))]
def f6r16 : List SOper := [
 o 178 (.mv (t 11)),
 o 179 (.cmp .eql (t 178) (i 0)),
 o 180 (.mv (t 179)),
 g 181 180 (.fa 1 (t 15)),
 g 182 180 (.ld1 (t 181)),
 g 183 180 (.cmp .eql (t 182) (i 1)),
 o 184 (.pick (t 180) (t 183) (b false)),
 o 185 (.mv (t 184)),
 g 186 185 (.fa 0 (t 18)),
 g 187 185 (.ld1 (t 186)),
 g 188 185 (.cmp .eql (t 187) (i 3)),
 o 189 (.pick (t 185) (t 188) (b false)),
 o 190 (.mv (t 189)),
 g 191 190 (.fa 1 (t 18)),
 g 192 190 (.ld1 (t 191)),
 g 193 190 (.cmp .eql (t 192) (i 0)),
 o 194 (.pick (t 190) (t 193) (b false)),
 o 195 (.mv (t 194)),
 g 196 195 (.fa 1 (t 21)),
 g 197 195 (.ld1 (t 196)),
 g 198 195 (.fa 3 (t 3)),
 g 199 195 (.ld1 (t 198)),
 g 200 195 (.cmp .eql (t 197) (t 199)),
 o 201 (.pick (t 195) (t 200) (b false)),
 o 202 (.mv (t 201)),
 g 203 202 (.call 8 []),
 o 204 (.pick (t 202) (t 203) (b false)),
 o 4 (.mv (t 204))]
def f6 : SCode := (.seq (.ops f6r0) (.seq (.seq (.ops f6r1) (.cond (t 50) (.seq (.ops f6r2) .ret) .skip)) (.seq (.ops f6r3) (.seq (.seq (.ops f6r4) (.cond (t 58) (.seq (.ops f6r5) .ret) .skip)) (.seq (.ops f6r6) (.seq (.ops f6r7) (.seq (.ops f6r8) (.seq (.seq (.ops f6r9) (.cond (t 117) (.seq (.ops f6r10) .ret) .skip)) (.seq (.ops f6r11) (.seq (.ops f6r12) (.seq (.ops f6r13) (.seq (.ops f6r14) (.seq (.ops f6r15) (.seq (.ops f6r16) .ret))))))))))))))
theorem f6_calls : Sound Tryz.prog 6 205 f6 [.t 4] := sound_of mixed Tryz.func6 rfl (by kernel_rfl) (by kernel_rfl) (by kernel_rfl)

def f9r0 : List SOper := [
 o 6 (.mv (b false))]
def f9r1 : List SOper := [
 o 18 (.mv (t 0)),
 o 19 (.call 10 [(t 18)]),
 o 17 (.mv (t 19)),
 o 20 (.ext (t 17) 0),
 o 21 (.ext (t 17) 1),
 o 7 (.mv (t 20)),
 o 8 (.mv (t 21))]
def f9r2 : List SOper := [
 o 23 (.mv (t 0)),
 o 24 (.call 16 [(t 23)]),
 o 22 (.mv (t 24)),
 o 25 (.ext (t 22) 0),
 o 26 (.ext (t 22) 1),
 o 9 (.mv (t 25)),
 o 10 (.mv (t 26))]
def f9r3 : List SOper := [
 o 27 (.mv (t 10)),
 o 28 (.cmp .neq (t 27) (i 0)),
 o 29 (.mv (t 28)),
 n 30 29 (.mv (t 8)),
 n 31 29 (.cmp .neq (t 30) (i 0)),
 o 32 (.pick (t 29) (b true) (t 31))]
def f9r4 : List SOper := [
 o 33 (.mv (t 8)),
 o 34 (.mv (t 10)),
 o 35 (.cmp .eql (t 33) (t 34)),
 o 6 (.mv (t 35))]
def f9r5 : List SOper := [
 o 37 (.mv (t 7)),
 o 38 (.mv (t 1)),
 o 39 (.mv (t 2)),
 o 40 (.call 11 [(t 37), (t 38), (t 39)]),
 o 36 (.mv (t 40)),
 o 41 (.ext (t 36) 0),
 o 42 (.ext (t 36) 1),
 o 43 (.ext (t 36) 2),
 o 11 (.new [(.int .i64 0), (.int .i64 0), (.string ⟨#[]⟩), (.slice none 0 0)]),
 q (.st 4 (t 11) (t 41)),
 o 12 (.mv (t 42)),
 o 13 (.mv (t 43))]
def f9r6 : List SOper := [
 o 45 (.mv (t 9)),
 o 46 (.mv (t 1)),
 o 47 (.mv (t 2)),
 o 48 (.call 17 [(t 45), (t 46), (t 47)]),
 o 44 (.mv (t 48)),
 o 49 (.ext (t 44) 0),
 o 50 (.ext (t 44) 1),
 o 51 (.ext (t 44) 2),
 o 14 (.new [(.int .i64 0), (.int .i64 0), (.string ⟨#[]⟩), (.slice none 0 0)]),
 q (.st 4 (t 14) (t 49)),
 o 15 (.mv (t 50)),
 o 16 (.mv (t 51))]
def f9r7 : List SOper := [
 o 52 (.mv (t 13)),
 o 53 (.mv (t 16)),
 o 54 (.cmpb false (t 52) (t 53)),
 o 55 (.mv (t 54)),
 g 56 55 (.ldn 4 (t 11)),
 g 57 55 (.ldn 4 (t 14)),
 g 58 55 (.call 18 [(t 56), (t 57)]),
 o 59 (.pick (t 55) (t 58) (b false)),
 o 60 (.mv (t 59)),
 g 61 60 (.mv (t 12)),
 g 62 60 (.mv (t 15)),
 g 63 60 (.call 19 [(t 61), (t 62)]),
 o 64 (.pick (t 60) (t 63) (b false)),
 o 65 (.mv (t 64)),
 g 66 65 (.mv (t 7)),
 g 67 65 (.mv (t 9)),
 g 68 65 (.call 20 [(t 66), (t 67)]),
 o 69 (.pick (t 65) (t 68) (b false)),
 o 6 (.mv (t 69))]
def f9 : SCode := (.seq (.ops f9r0) (.seq (.ops f9r1) (.seq (.ops f9r2) (.seq (.seq (.ops f9r3) (.cond (t 32) (.seq (.ops f9r4) .ret) .skip)) (.seq (.ops f9r5) (.seq (.ops f9r6) (.seq (.ops f9r7) .ret)))))))
def f13r0 : List SOper := [
 o 2 (.mv e)]
def f13r1 : List SOper := [
 o 3 (.mv (t 0)),
 o 4 (.call 30 [(t 3), (i 10)]),
 o 2 (.mv (t 4))]
def f13 : SCode := (.seq (.ops f13r0) (.seq (.ops f13r1) .ret))
theorem f13_calls : Sound Tryz.prog 13 5 f13 [.t 2] := sound_of mixed Tryz.func13 rfl (by kernel_rfl) (by kernel_rfl) (by kernel_rfl)

def f19r0 : List SOper := [
 o 4 (.mv (b false))]
def f19r1 : List SOper := [
 o 6 (.mv (t 0)),
 o 7 (.len (t 6)),
 o 8 (.mv (t 1)),
 o 9 (.len (t 8)),
 o 10 (.cmp .neq (t 7) (t 9))]
def f19r2 : List SOper := [
 o 4 (.mv (b false))]
def f19r3 : List SOper := [
 o 5 (.mv (i 0))]
def f19r4 : List SOper := [
 o 11 (.mv (t 5)),
 o 12 (.mv (t 0)),
 o 13 (.len (t 12)),
 o 14 (.cmp .lss (t 11) (t 13))]
def f19r5 : List SOper := [
 o 17 (.mv (t 0)),
 o 18 (.mv (t 5)),
 o 19 (.ixs 5 (t 17) (t 18)),
 o 20 (.ldn 5 (t 19)),
 o 21 (.mv (t 1)),
 o 22 (.mv (t 5)),
 o 23 (.ixs 5 (t 21) (t 22)),
 o 24 (.ldn 5 (t 23)),
 o 25 (.eqa true [(.int .i64), .str, .str, .str, (.int .i64)] (t 20) (t 24))]
def f19r6 : List SOper := [
 o 4 (.mv (b false))]
def f19r7 : List SOper := [
 o 15 (.mv (t 5)),
 o 16 (.ar .add (t 15) (i 1)),
 o 5 (.mv (t 16))]
def f19l8 : SCode := (.seq (.seq (.ops f19r4) (.cond (t 14) .skip (.exit 0))) (.seq (.block 1 (.seq (.ops f19r5) (.cond (t 25) (.seq (.ops f19r6) .ret) .skip))) (.ops f19r7)))
def f19r9 : List SOper := [
 o 4 (.mv (b true))]
def f19 : SCode := (.seq (.ops f19r0) (.seq (.seq (.ops f19r1) (.cond (t 10) (.seq (.ops f19r2) .ret) .skip)) (.seq (.seq (.ops f19r3) (.block 0 (.loop f19l8))) (.seq (.ops f19r9) .ret))))
def f20r0 : List SOper := [
 o 3 (.box (t 1)),
 o 4 (.new [(.bool false)])]
def f20r1 : List SOper := [
 o 5 (.new [(.int .i64 0)]),
 q (.st 1 (t 5) (i 0))]
def f20r2 : List SOper := [
 o 9 (.mv (t 0)),
 o 10 (.call 39 [(t 9)]),
 o 6 (.mv (t 10))]
def f20r3 : List SOper := [
 o 11 (.mv (t 6)),
 o 12 (.eqn 3 false (t 11))]
def f20r4 : List SOper := [
 q (.st 1 (t 4) (b false))]
def f20r5 : List SOper := [
 o 13 (.mv (t 6))]
def f20r6 : List SOper := [
 o 7 (.mv (t 14))]
def f20r7 : List SOper := [
 o 8 (.new [(.int .i64 0), (.string ⟨#[]⟩), (.slice none 0 0), (.slice none 0 0), (.slice none 0 0), (.bool false), (.int .i64 0)]),
 q (.st 7 (t 8) (t 15))]
def f20r8 : List SOper := [
 o 16 (.ld1 (t 5)),
 o 17 (.ld1 (t 3)),
 o 18 (.len (t 17)),
 o 19 (.cmp .geq (t 16) (t 18)),
 o 20 (.mv (t 19)),
 n 21 20 (.mv (t 7)),
 n 22 20 (.ld1 (t 3)),
 n 23 20 (.ld1 (t 5)),
 n 24 20 (.ixs 8 (t 22) (t 23)),
 n 25 20 (.fa 0 (t 24)),
 n 26 20 (.ld1 (t 25)),
 n 27 20 (.cmp .neq (t 21) (t 26)),
 o 28 (.pick (t 20) (b true) (t 27)),
 o 29 (.mv (t 28)),
 n 30 29 (.ldn 7 (t 8)),
 n 31 29 (.ld1 (t 3)),
 n 32 29 (.ld1 (t 5)),
 n 33 29 (.ixs 8 (t 31) (t 32)),
 n 34 29 (.fa 1 (t 33)),
 n 35 29 (.ldn 7 (t 34)),
 n 36 29 (.call 40 [(t 30), (t 35)]),
 n 37 29 (.un .not (t 36)),
 o 38 (.pick (t 29) (b true) (t 37))]
def f20r9 : List SOper := [
 q (.st 1 (t 4) (b false))]
def f20r10 : List SOper := [
 o 39 (.ld1 (t 5)),
 o 40 (.ar .add (t 39) (i 1)),
 q (.st 1 (t 5) (t 40))]
def f20a11 : SCode := (.seq (.ops f20r6) (.ops f20r7))
def f20b11 : SCode := (.block 1 (.seq (.seq (.ops f20r8) (.cond (t 38) (.seq (.ops f20r9) .ret) .skip)) (.ops f20r10)))
def f20r12 : List SOper := [
 o 41 (.ld1 (t 5)),
 o 42 (.ld1 (t 3)),
 o 43 (.len (t 42)),
 o 44 (.cmp .eql (t 41) (t 43)),
 q (.st 1 (t 4) (t 44))]
def f20 : SCode := (.seq (.ops f20r0) (.seq (.ops f20r1) (.seq (.ops f20r2) (.seq (.seq (.ops f20r3) (.cond (t 12) (.seq (.ops f20r4) .ret) .skip)) (.seq (.seq (.ops f20r5) (.block 0 (.rangeF (t 13) [14, 15] f20a11 f20b11))) (.seq (.ops f20r12) .ret))))))
def f36r0 : List SOper := [
 o 6 (.mv (b false))]
def f36r1 : List SOper := [
 o 7 (.mv (t 0)),
 o 8 (.nilck (t 7)),
 o 9 (.fa 2 (t 8)),
 o 10 (.ld1 (t 9)),
 o 11 (.len (t 10)),
 o 12 (.mv (t 1)),
 o 13 (.cmp .lss (t 11) (t 12)),
 o 14 (.mv (t 13)),
 n 15 14 (.mv (t 0)),
 n 16 14 (.nilck (t 15)),
 n 17 14 (.fa 2 (t 16)),
 n 18 14 (.ld1 (t 17)),
 n 19 14 (.len (t 18)),
 n 20 14 (.mv (t 2)),
 n 21 14 (.cmp .gtr (t 19) (t 20)),
 o 22 (.pick (t 14) (b true) (t 21))]
def f36r2 : List SOper := [
 o 23 (.mv (t 0)),
 o 24 (.nilck (t 23)),
 o 25 (.fa 4 (t 24)),
 q (.st 1 (t 25) (.const (.string ⟨#[69, 82, 82, 32, 97, 114, 103, 115]⟩)))]
def f36r3 : List SOper := [
 o 6 (.mv (b false))]
def f36r4 : List SOper := [
 o 6 (.mv (b true))]
def f36 : SCode := (.seq (.ops f36r0) (.seq (.seq (.ops f36r1) (.cond (t 22) (.seq (.ops f36r2) (.seq (.ops f36r3) .ret)) .skip)) (.seq (.ops f36r4) .ret)))
def f37r0 : List SOper := [
 o 2 (.new [(.int .i64 0), (.int .i64 0), (.string ⟨#[]⟩), (.slice none 0 0)])]
def f37r1 : List SOper := [
 o 3 (.mv (t 0)),
 o 4 (.build [(.int .i64 0), (.int .i64 0), (.string ⟨#[]⟩), (.slice none 0 0)] [(0, 1), (2, 1)] [(i 2), (t 3)]),
 q (.st 4 (t 2) (t 4))]
def f37 : SCode := (.seq (.ops f37r0) (.seq (.ops f37r1) .ret))
def f38r0 : List SOper := [
 o 4 (.new [(.int .i64 0), (.int .i64 0), (.string ⟨#[]⟩), (.slice none 0 0)])]
def f38r1 : List SOper := [
 o 9 (.mv (t 1))]
def f38r2 : List SOper := [
 o 11 (.cmp .eql (t 9) (.const (.string ⟨#[83, 69, 84]⟩))),
 o 10 (.mv (t 11))]
def f38r3 : List SOper := [
 o 12 (.mv (t 0)),
 o 13 (.call 82 [(t 12)]),
 q (.st 4 (t 4) (t 13))]
def f38r4 : List SOper := [
 o 15 (.cmp .eql (t 9) (.const (.string ⟨#[71, 69, 84]⟩))),
 o 14 (.mv (t 15))]
def f38r5 : List SOper := [
 o 16 (.cmp .eql (t 9) (.const (.string ⟨#[83, 84, 82, 76, 69, 78]⟩))),
 o 14 (.mv (t 16))]
def f38r6 : List SOper := [
 o 17 (.cmp .eql (t 9) (.const (.string ⟨#[65, 80, 80, 69, 78, 68]⟩))),
 o 14 (.mv (t 17))]
def f38r7 : List SOper := [
 o 18 (.mv (t 0)),
 o 19 (.mv (t 1)),
 o 20 (.call 83 [(t 18), (t 19)]),
 q (.st 4 (t 4) (t 20))]
def f38r8 : List SOper := [
 o 22 (.cmp .eql (t 9) (.const (.string ⟨#[68, 69, 76]⟩))),
 o 21 (.mv (t 22))]
def f38r9 : List SOper := [
 o 23 (.cmp .eql (t 9) (.const (.string ⟨#[69, 88, 73, 83, 84, 83]⟩))),
 o 21 (.mv (t 23))]
def f38r10 : List SOper := [
 o 24 (.mv (t 0)),
 o 25 (.mv (t 1)),
 o 26 (.cmp .eql (t 25) (.const (.string ⟨#[68, 69, 76]⟩))),
 o 27 (.call 84 [(t 24), (t 26)]),
 q (.st 4 (t 4) (t 27))]
def f38r11 : List SOper := [
 o 29 (.cmp .eql (t 9) (.const (.string ⟨#[84, 89, 80, 69]⟩))),
 o 28 (.mv (t 29))]
def f38p12 : List SOper := [
 o 31 (.mv (t 0)),
 o 32 (.nilck (t 31)),
 o 33 (.fa 0 (t 32)),
 o 34 (.ld1 (t 33)),
 o 35 (.mv (t 0)),
 o 36 (.nilck (t 35)),
 o 37 (.fa 2 (t 36)),
 o 38 (.ld1 (t 37)),
 o 39 (.ixs 1 (t 38) (i 0)),
 o 40 (.ld1 (t 39)),
 o 41 (.mv (t 0)),
 o 42 (.nilck (t 41)),
 o 43 (.fa 1 (t 42)),
 o 44 (.ld1 (t 43))]
def f38r12 : List SOper := [
 o 45 (.callq 85 [(t 34), (t 40), (t 44)]),
 o 30 (.mv (t 45)),
 o 46 (.ext (t 30) 0),
 o 47 (.ext (t 30) 1),
 o 5 (.new [(.int .i64 0), (.string ⟨#[]⟩), (.slice none 0 0), (.slice none 0 0), (.slice none 0 0), (.bool false), (.int .i64 0)]),
 q (.st 7 (t 5) (t 46)),
 o 6 (.mv (t 47))]
def f38s12 : List SOper := [
 o 5 (.new [(.int .i64 0), (.string ⟨#[]⟩), (.slice none 0 0), (.slice none 0 0), (.slice none 0 0), (.bool false), (.int .i64 0)]),
 o 45 (.callq 85 [(t 34), (t 40), (t 44)]),
 o 30 (.mv (t 45)),
 o 46 (.ext (t 30) 0),
 o 47 (.ext (t 30) 1),
 q (.st 7 (t 5) (t 46)),
 o 6 (.mv (t 47))]
def f38r13 : List SOper := [
 o 48 (.bslice [(.string ⟨#[]⟩), (.string ⟨#[]⟩), (.string ⟨#[]⟩), (.string ⟨#[]⟩), (.string ⟨#[]⟩), (.string ⟨#[]⟩)] 6 [(0, 1), (1, 1), (2, 1), (3, 1), (4, 1), (5, 1)] [(.const (.string ⟨#[110, 111, 110, 101]⟩)), (.const (.string ⟨#[115, 116, 114, 105, 110, 103]⟩)), (.const (.string ⟨#[104, 97, 115, 104]⟩)), (.const (.string ⟨#[108, 105, 115, 116]⟩)), (.const (.string ⟨#[115, 101, 116]⟩)), (.const (.string ⟨#[122, 115, 101, 116]⟩))]),
 o 49 (.fa 0 (t 5)),
 o 50 (.ld1 (t 49)),
 o 51 (.ixs 1 (t 48) (t 50)),
 o 52 (.ld1 (t 51)),
 o 53 (.call 86 [(t 52)]),
 q (.st 4 (t 4) (t 53))]
def f38r14 : List SOper := [
 o 55 (.cmp .eql (t 9) (.const (.string ⟨#[73, 78, 67, 82, 66, 89]⟩))),
 o 54 (.mv (t 55))]
def f38r15 : List SOper := [
 o 57 (.mv (t 0)),
 o 58 (.call 87 [(t 57), (i 1)]),
 o 56 (.mv (t 58)),
 o 59 (.ext (t 56) 0),
 o 60 (.ext (t 56) 1),
 o 7 (.mv (t 59)),
 o 8 (.mv (t 60))]
def f38r16 : List SOper := [
 o 61 (.mv (t 8)),
 o 62 (.un .not (t 61))]
def f38r17 : List SOper := [
 o 63 (.build [(.int .i64 0), (.int .i64 0), (.string ⟨#[]⟩), (.slice none 0 0)] [] []),
 q (.st 4 (t 4) (t 63))]
def f38r18 : List SOper := [
 o 64 (.mv (t 0)),
 o 65 (.mv (t 7)),
 o 66 (.call 88 [(t 64), (t 65)]),
 q (.st 4 (t 4) (t 66))]
def f38r19 : List SOper := [
 o 68 (.cmp .eql (t 9) (.const (.string ⟨#[73, 78, 67, 82]⟩))),
 o 67 (.mv (t 68))]
def f38r20 : List SOper := [
 o 69 (.mv (t 0)),
 o 70 (.call 88 [(t 69), (i 1)]),
 q (.st 4 (t 4) (t 70))]
def f38r21 : List SOper := [
 o 72 (.cmp .eql (t 9) (.const (.string ⟨#[68, 69, 67, 82]⟩))),
 o 71 (.mv (t 72))]
def f38r22 : List SOper := [
 o 73 (.mv (t 0)),
 o 74 (.call 88 [(t 73), (i (-1))]),
 q (.st 4 (t 4) (t 74))]
def f38r23 : List SOper := [
 o 76 (.cmp .eql (t 9) (.const (.string ⟨#[77, 71, 69, 84]⟩))),
 o 75 (.mv (t 76))]
def f38r24 : List SOper := [
 o 77 (.cmp .eql (t 9) (.const (.string ⟨#[77, 83, 69, 84]⟩))),
 o 75 (.mv (t 77))]
def f38r25 : List SOper := [
 o 78 (.mv (t 0)),
 o 79 (.mv (t 1)),
 o 80 (.cmp .eql (t 79) (.const (.string ⟨#[77, 83, 69, 84]⟩))),
 o 81 (.call 89 [(t 78), (t 80)]),
 q (.st 4 (t 4) (t 81))]
def f38r26 : List SOper := [
 o 83 (.cmp .eql (t 9) (.const (.string ⟨#[80, 69, 88, 80, 73, 82, 69]⟩))),
 o 82 (.mv (t 83))]
def f38r27 : List SOper := [
 o 84 (.cmp .eql (t 9) (.const (.string ⟨#[80, 69, 82, 83, 73, 83, 84]⟩))),
 o 82 (.mv (t 84))]
def f38r28 : List SOper := [
 o 85 (.cmp .eql (t 9) (.const (.string ⟨#[80, 84, 84, 76]⟩))),
 o 82 (.mv (t 85))]
def f38r29 : List SOper := [
 o 86 (.mv (t 0)),
 o 87 (.mv (t 1)),
 o 88 (.call 90 [(t 86), (t 87)]),
 q (.st 4 (t 4) (t 88))]
def f38r30 : List SOper := [
 o 89 (.mv (t 0)),
 o 90 (.mv (t 1)),
 o 91 (.call 91 [(t 89), (t 90)]),
 q (.st 4 (t 4) (t 91))]
def f38 : SCode := (.seq (.ops f38r0) (.seq (.seq (.ops f38r1) (.block 0 (.seq (.ops f38r2) (.cond (t 10) (.seq (.ops f38r3) .ret) (.seq (.seq (.ops f38r4) (.cond (t 14) .skip (.seq (.ops f38r5) (.cond (t 14) .skip (.ops f38r6))))) (.cond (t 14) (.seq (.ops f38r7) .ret) (.seq (.seq (.ops f38r8) (.cond (t 21) .skip (.ops f38r9))) (.cond (t 21) (.seq (.ops f38r10) .ret) (.seq (.ops f38r11) (.cond (t 28) (.seq (.two f38p12 f38r12 f38s12) (.seq (.ops f38r13) .ret)) (.seq (.ops f38r14) (.cond (t 54) (.seq (.ops f38r15) (.seq (.seq (.ops f38r16) (.cond (t 62) (.seq (.ops f38r17) .ret) .skip)) (.seq (.ops f38r18) .ret))) (.seq (.ops f38r19) (.cond (t 67) (.seq (.ops f38r20) .ret) (.seq (.ops f38r21) (.cond (t 71) (.seq (.ops f38r22) .ret) (.seq (.seq (.ops f38r23) (.cond (t 75) .skip (.ops f38r24))) (.cond (t 75) (.seq (.ops f38r25) .ret) (.seq (.seq (.ops f38r26) (.cond (t 82) .skip (.seq (.ops f38r27) (.cond (t 82) .skip (.ops f38r28))))) (.cond (t 82) (.seq (.ops f38r29) .ret) .skip)))))))))))))))))))) (.seq (.ops f38r30) .ret)))
end Go.Proofs.YtgmkldaonkbjgaaGreatDoor.C
namespace Go.Proofs.YtgmkldaonkbjgaaGreatDoor
open Go Go.Sx Go.Proofs.YtgmkldaonkbjgaaGreatDoor.C

theorem cellWW {h : Heap} {b o : Nat} {l : List Value} {v : Value} (hb : BlkW h b l) (hv : l[o]? = some v) : cell h b o = some v := by
  obtain ⟨e, k, x, _⟩ := hb
  simp [cell, x, hv]

def upB (c : UInt8) : UInt8 := if 97 ≤ c.toNat ∧ c.toNat ≤ 122 then UInt8.ofNat (c.toNat - 32) else c
def up (s : ByteArray) : ByteArray := ⟨⟨s.data.toList.map upB⟩⟩
def cellB (l : List UInt8) : List Value := l.map fun b => .int .u8 b.toNat
def upTo (bs : List UInt8) (q : Nat) : List UInt8 := (bs.take q).map upB ++ bs.drop q

theorem cellB_len (l : List UInt8) : (cellB l).length = l.length := by simp [cellB]
theorem upTo_len (bs : List UInt8) (q : Nat) : (upTo bs q).length = bs.length := by simp [upTo]; omega
theorem upTo_all (bs : List UInt8) : upTo bs bs.length = bs.map upB := by simp [upTo]
theorem upTo_zero (bs : List UInt8) : upTo bs 0 = bs := by simp [upTo]
theorem upTo_at {bs : List UInt8} {q : Nat} (hq : q < bs.length) : upTo bs q = (bs.take q).map upB ++ (bs[q] :: bs.drop (q + 1)) := by
  rw [upTo, List.drop_eq_getElem_cons hq]
theorem upTo_succ {bs : List UInt8} {q : Nat} (hq : q < bs.length) : upTo bs (q + 1) = (bs.take q).map upB ++ (upB bs[q] :: bs.drop (q + 1)) := by
  rw [upTo, List.take_succ_eq_append_getElem hq, List.map_append, List.append_assoc]; rfl
theorem take_len {bs : List UInt8} {q : Nat} (hq : q < bs.length) : (cellB ((bs.take q).map upB)).length = q := by simp [cellB]; omega
theorem blk_at {bs : List UInt8} {q : Nat} (hq : q < bs.length) (tail : List Value) : cellB (upTo bs q) ++ tail = cellB ((bs.take q).map upB) ++ ([.int .u8 bs[q].toNat] ++ (cellB (bs.drop (q + 1)) ++ tail)) := by
  rw [upTo_at hq]; simp only [cellB, List.map_append, List.map_cons, List.append_assoc, List.cons_append, List.nil_append]
theorem blk_succ {bs : List UInt8} {q : Nat} (hq : q < bs.length) (tail : List Value) : cellB (upTo bs (q + 1)) ++ tail = cellB ((bs.take q).map upB) ++ ([.int .u8 (upB bs[q]).toNat] ++ (cellB (bs.drop (q + 1)) ++ tail)) := by
  rw [upTo_succ hq]; simp only [cellB, List.map_append, List.map_cons, List.append_assoc, List.cons_append, List.nil_append]
theorem cell_q {h : Heap} {b q : Nat} {bs : List UInt8} {tail : List Value} (hb : BlkW h b (cellB (upTo bs q) ++ tail)) (hq : q < bs.length) : cell h b (0 + q * 1) = some (.int .u8 bs[q].toNat) := by
  rw [Nat.zero_add, Nat.mul_one]
  refine cellWW hb ?_
  rw [blk_at hq, List.getElem?_append_right (by rw [take_len hq]; exact Nat.le_refl _), take_len hq]
  simp
theorem put_q {h h' : Heap} {b q : Nat} {bs : List UInt8} {tail : List Value} {z : Int} (hq : q < bs.length) (hz : z = (upB bs[q]).toNat) (hp : PutW h h' b (splice (cellB (upTo bs q) ++ tail) (0 + q * 1) [.int .u8 z])) :
    BlkW h' b (cellB (upTo bs (q + 1)) ++ tail) := by
  have := hp.blk
  rw [Nat.zero_add, Nat.mul_one, blk_at hq] at this
  rw [blk_succ hq, ← hz]
  have e := splice_at (cellB ((bs.take q).map upB)) [.int .u8 bs[q].toNat] (cellB (bs.drop (q + 1)) ++ tail) [.int .u8 z] rfl
  rw [take_len hq] at e
  rwa [e] at this
theorem same_q {bs : List UInt8} {q : Nat} (hq : q < bs.length) (hu : upB bs[q] = bs[q]) : upTo bs (q + 1) = upTo bs q := by
  rw [upTo_succ hq, upTo_at hq, hu]
theorem upB_lo {c : UInt8} (h1 : 97 ≤ (c.toNat : Int)) (h2 : (c.toNat : Int) ≤ 122) : ((upB c).toNat : Int) = c.toNat - 32 := by
  unfold upB
  rw [if_pos ⟨by omega, by omega⟩]
  have : (UInt8.ofNat (c.toNat - 32)).toNat = c.toNat - 32 := by
    rw [UInt8.toNat_ofNat']; omega
  rw [this]; omega
theorem upB_not {c : UInt8} (h : ¬ (97 ≤ (c.toNat : Int) ∧ (c.toNat : Int) ≤ 122)) : upB c = c := by
  unfold upB
  rw [if_neg (fun ⟨a, b⟩ => h ⟨by omega, by omega⟩)]

theorem wrap8 {x : Int} (h0 : 0 ≤ x) (h1 : x < 256) : IntKind.u8.wrap x = x := by
  have e : IntKind.u8.wrap x = x % 256 := by simp [IntKind.wrap, IntKind.bits, IntKind.signed]
  rw [e]; omega

theorem cells_pre {h : Heap} {b : Nat} {l tail : List Value} (hb : BlkW h b (l ++ tail)) : Cells h b 0 l := by
  intro i v hv
  refine cellWW hb ?_
  rw [Nat.zero_add, List.getElem?_append_left (List.getElem?_eq_some_iff.1 hv).1]; exact hv

theorem bword_calls {h : Heap} {s : ByteArray} (hs : s.size < 4611686018427387904) : CallsH Tryz.prog 25 [.string s] h (Ret fun r h' => r = .string (up s) ∧ Chg [] h h') := by
  obtain ⟨⟨bs⟩⟩ := s
  have hs : bs.length < 4611686018427387904 := hs
  refine f25_calls (by simp) ?_
  intro c b h1 hc g
  have hc : bs.length ≤ c := hc
  obtain ⟨tail, ht⟩ : ∃ tail, tail = List.replicate (c - bs.length) (Value.int .u8 0) := ⟨_, rfl⟩
  have gb : BlkW h1 b (cellB bs ++ tail) := by rw [ht]; exact g.blk
  refine loop_intro (fun q : Nat => [(3, .slice (some ⟨b, 0, none⟩) bs.length c), (8, .slice (some ⟨b, 0, none⟩) bs.length c), (9, .int .i64 bs.length), (10, .int .i64 q)]) (fun q h' => q ≤ bs.length ∧ BlkW h' b (cellB (upTo bs q) ++ tail) ∧ h'.size = h1.size ∧ ∀ k, k ≠ b → h'[k]? = h1[k]?) (fun q => bs.length - q) 0 ⟨rfl, rfl, rfl, rfl, trivial⟩ ⟨Nat.zero_le _, by rw [upTo_zero]; exact gb, rfl, fun _ _ => rfl⟩ ?_
  rintro q h2 ⟨hq, hb, hsz, hold⟩
  have next : ∀ {h3 : Heap}, q < bs.length → BlkW h3 b (cellB (upTo bs (q + 1)) ++ tail) → h3.size = h1.size → (∀ k, k ≠ b → h3[k]? = h1[k]?) → q + 1 ≤ bs.length ∧ BlkW h3 b (cellB (upTo bs (q + 1)) ++ tail) ∧ h3.size = h1.size ∧ ∀ k, k ≠ b → h3[k]? = h1[k]? := fun a b c d => ⟨a, b, c, d⟩
  refine And.intro rfl (And.intro (fun hlt => ?_) (fun hge => ?_))
  · have hlt : q < bs.length := by omega
    have cq := cell_q hb hlt
    refine And.intro (by omega) (And.intro (by omega) (Exists.intro _ (And.intro cq (And.intro rfl (And.intro (fun h97 => ?_) (fun hn => ?_))))))
    · refine And.intro rfl (And.intro (fun h122 => ?_) (fun hn => ?_))
      · refine And.intro rfl (fun z hz => And.intro rfl (fun z1 hz1 => ?_))
        have hz : z = (bs[q].toNat : Int) - 97 := by rw [hz]; exact wrap8 (by omega) (by omega)
        have hz1 : z1 = (upB bs[q]).toNat := by
          rw [upB_lo h97 h122, hz1, hz]
          have := wrap8 (x := (bs[q].toNat : Int) - 97 + 65) (by omega) (by omega)
          exact this.trans (by omega)
        refine And.intro (by omega) (And.intro (by omega) (Exists.intro _ (And.intro hb (And.intro ?_ (And.intro rfl (And.intro (Go.Sx.ones1 rfl) fun h3 p => ?_))))))
        · show 0 + q * 1 + 1 ≤ _
          rw [List.length_append, cellB_len, upTo_len]; omega
        · refine And.intro rfl (fun z2 hz2 => ?_)
          have hz2 := add_in hz2 (by omega) (by omega)
          subst hz2
          exact And.intro rfl (Exists.intro (q + 1) (And.intro ⟨rfl, rfl, rfl, rfl, trivial⟩ (And.intro (next hlt (put_q hlt hz1 p) (p.size.trans hsz) fun k hk => (p.old k hk).trans (hold k hk)) (by omega))))
      · refine And.intro rfl (fun z2 hz2 => ?_)
        have hz2 := add_in hz2 (by omega) (by omega)
        subst hz2
        exact And.intro rfl (Exists.intro (q + 1) (And.intro ⟨rfl, rfl, rfl, rfl, trivial⟩ (And.intro (next hlt (by rw [same_q hlt (upB_not fun hh => hn hh.2)]; exact hb) hsz hold) (by omega))))
    · refine And.intro rfl (fun z2 hz2 => ?_)
      have hz2 := add_in hz2 (by omega) (by omega)
      subst hz2
      exact And.intro rfl (Exists.intro (q + 1) (And.intro ⟨rfl, rfl, rfl, rfl, trivial⟩ (And.intro (next hlt (by rw [same_q hlt (upB_not fun hh => hn hh.1)]; exact hb) hsz hold) (by omega))))
  · have hkl : q = bs.length := by omega
    subst hkl
    rw [upTo_all] at hb
    refine Exists.intro (bs.map upB) (And.intro (by simp) (And.intro (cells_pre hb) (And.intro rfl ?_)))
    refine ⟨by rw [hsz, g.size]; omega, fun k hk _ => ?_⟩
    have := g.id
    rw [hold k (by omega), g.old k hk]

end Go.Proofs.YtgmkldaonkbjgaaGreatDoor
namespace Go.Proofs.YtgmkldaonkbjgaaGreatDoor
open Go Go.Sx Go.Proofs.YtgmkldaonkbjgaaGreatDoor.C

def ofB (l : List UInt8) : ByteArray := ⟨⟨l⟩⟩
def cmdF : List (List UInt8 × Nat × Option Int) := [([83, 69, 84], 57, none), ([71, 69, 84], 58, none), ([68, 69, 76], 59, none), ([69, 88, 73, 83, 84, 83], 60, none), ([84, 89, 80, 69], 61, none),
  ([73, 78, 67, 82], 110, some 1), ([68, 69, 67, 82], 110, some (-1)), ([73, 78, 67, 82, 66, 89], 63, none), ([65, 80, 80, 69, 78, 68], 67, none), ([83, 84, 82, 76, 69, 78], 68, none), ([77, 71, 69, 84], 69, none),
  ([77, 83, 69, 84], 70, none), ([80, 69, 88, 80, 73, 82, 69], 71, none), ([80, 69, 82, 83, 73, 83, 84], 72, none), ([80, 84, 84, 76], 73, none), ([75, 69, 89, 83], 74, none), ([68, 66, 83, 73, 90, 69], 75, none),
  ([70, 76, 85, 83, 72, 65, 76, 76], 76, none)]

def FnV (h : Heap) (v : Value) (g : Nat) : Option Int → Prop
  | none => v = .func (.func g) #[] #[]
  | some z => ∃ b o, v = .func (.func g) #[] #[.pointer (some ⟨b, o, none⟩)] ∧ cell h b o = some (.int .i64 z)
def lookF : List (List UInt8 × Nat × Option Int) → ByteArray → Option (Nat × Option Int)
  | [], _ => none
  | (n, g, z) :: l, w => if w = ofB n then some (g, z) else lookF l w
def FoundF (h : Heap) (W : ByteArray) (ms : List MapEntry) (i : Nat) : Option (Nat × Option Int) → Prop
  | some (g, z) => ∃ j v, mfind (.string W) ms i = some (j, v) ∧ FnV h v g z
  | none => mfind (.string W) ms i = none


def CmF (h : Heap) : List MapEntry → List (List UInt8 × Nat × Option Int) → Prop
  | [], [] => True
  | e :: es, (n, g, z) :: ns => e.key = .string (ofB n) ∧ FnV h e.val g z ∧ CmF h es ns
  | _, _ => False

theorem CmF.found {h : Heap} (W : ByteArray) : ∀ {es : List MapEntry} {ns : List (List UInt8 × Nat × Option Int)} {i : Nat}, CmF h es ns → (∀ e ∈ es, fits .str e.key = true) ∧ FoundF h W es i (lookF ns W)
  | [], [], i, _ => ⟨by simp, rfl⟩
  | e :: es, (n, g, z) :: ns, i, ⟨hk, hf, hm⟩ => by
    obtain ⟨h5, h6⟩ := CmF.found W (i := i + 1) hm
    refine ⟨fun e' he' => ?_, ?_⟩
    · rcases List.mem_cons.1 he' with rfl | he'
      · rw [hk]; rfl
      · exact h5 e' he'
    · unfold lookF
      by_cases hw : W = ofB n
      · rw [if_pos hw]
        refine ⟨i, e.val, ?_, hf⟩
        unfold mfind
        rw [hk, hw, if_pos (sameBits_refl (k := .str) rfl)]
      · rw [if_neg hw]
        have hn : ¬ (Instr.sameBits 10000 (.string W) e.key = true) := fun hs => by
          have := sameBits_eq (k := .str) (by rfl) (by rw [hk]; rfl) hs
          rw [hk] at this
          simp at this
          exact hw this
        cases hl : lookF ns W with
        | none =>
          rw [hl] at h6
          show mfind _ (e :: es) i = none
          unfold mfind
          rw [if_neg hn]; exact h6
        | some p =>
          rw [hl] at h6
          obtain ⟨j, v, h7, h8⟩ := h6
          refine ⟨j, v, ?_, h8⟩
          unfold mfind
          rw [if_neg hn]; exact h7
  | [], _ :: _, _, hm => hm.elim
  | _ :: _, [], _, hm => hm.elim

def eqL : List UInt8 → List UInt8 → Bool
  | [], [] => true
  | a :: l, b :: m => Nat.beq a.toNat b.toNat && eqL l m
  | _, _ => false
theorem eqL_refl : ∀ a : List UInt8, eqL a a = true
  | [] => rfl
  | a :: l => by simp [eqL, eqL_refl l]
theorem notin_of {k : List UInt8} {ks : List (List UInt8)} (h : (ks.all fun n => !eqL n k) = true) : k ∉ ks := fun hm => by
  have := List.all_eq_true.1 h k hm
  rw [eqL_refl] at this
  cases this
def KeysF (es : List MapEntry) (ks : List (List UInt8)) : Prop := es.map (·.key) = ks.map fun n => .string (ofB n)
theorem KeysF.fits {es : List MapEntry} {ks : List (List UInt8)} (hk : KeysF es ks) : ∀ e ∈ es, fits .str e.key = true := fun e he => by
  have : e.key ∈ es.map (·.key) := List.mem_map_of_mem he
  rw [hk] at this
  obtain ⟨n, _, e1⟩ := List.mem_map.1 this
  rw [← e1]; rfl
theorem KeysF.miss {k : List UInt8} : ∀ {es : List MapEntry} {ks : List (List UInt8)} {i : Nat}, KeysF es ks → k ∉ ks → mfind (.string (ofB k)) es i = none
  | [], ks, i, _, _ => rfl
  | e :: es, [], i, hk, _ => by simp [KeysF] at hk
  | e :: es, n :: ks, i, hk, hn => by
    simp only [KeysF, List.map_cons, List.cons.injEq] at hk
    unfold mfind
    rw [if_neg, KeysF.miss (es := es) (ks := ks) hk.2 (fun h => hn (by simp [h]))]
    intro hs
    have := sameBits_eq (k := .str) (by rfl) (by rw [hk.1]; rfl) hs
    rw [hk.1] at this
    simp [ofB] at this
    exact hn (by simp [this])
theorem KeysF.of_put {h h' : Heap} {r c : Nat} {es : List MapEntry} {ks : List (List UInt8)} {e : MapEntry} (hk : KeysF es ks) (_ : PutO h h' r (.map ⟨es ++ [e]⟩ c)) (n : List UInt8) (he : e.key = .string (ofB n)) : KeysF (es ++ [e]) (ks ++ [n]) := by
  unfold KeysF at hk ⊢
  rw [List.map_append, List.map_append, hk]
  simp [he]

theorem step_box {h : Heap} {n : Int} : CallsH Tryz.prog 62 [.int .i64 n] h (Ret fun r h' => ∃ b, r = .func (.func 110) #[] #[ptr b] ∧ Grow h h' b [.int .i64 n]) := by
  refine f62_calls (by simp) ?_
  intro b h1 g1
  exact ⟨_, rfl, g1⟩

set_option maxHeartbeats 1000000 in
theorem cmdsF_calls {h : Heap} : CallsH Tryz.prog 24 [] h (Ret fun r h' => Chg [] h h' ∧ ∃ mb es c, r = .map (some mb) ∧ MapB h' mb es c ∧ (∀ e ∈ es, fits .str e.key = true) ∧ ∀ W, FoundF h' W es 0 (lookF cmdF W)) := by
  refine f24_calls (by simp) ?_
  intro mb h0 g0
  have w := (St.start h).newm g0
  have ky : KeysF [] [] := rfl
  refine And.intro rfl (Exists.intro _ (Exists.intro _ (And.intro (w.get 0 rfl) (And.intro ky.fits ?_))))
  rw [show mfind (.string ⟨#[83, 69, 84]⟩) _ 0 = none from ky.miss (k := [83, 69, 84]) (notin_of (by kernel_rfl))]
  intro h1 p1
  have ky := ky.of_put p1 [83, 69, 84] rfl
  have w : St [] h _ [.m mb _ _] := w.mput 0 rfl p1
  refine And.intro rfl (Exists.intro _ (Exists.intro _ (And.intro (w.get 0 rfl) (And.intro ky.fits ?_))))
  rw [show mfind (.string ⟨#[71, 69, 84]⟩) _ 0 = none from ky.miss (k := [71, 69, 84]) (notin_of (by kernel_rfl))]
  intro h2 p2
  have ky := ky.of_put p2 [71, 69, 84] rfl
  have w : St [] h _ [.m mb _ _] := w.mput 0 rfl p2
  refine And.intro rfl (Exists.intro _ (Exists.intro _ (And.intro (w.get 0 rfl) (And.intro ky.fits ?_))))
  rw [show mfind (.string ⟨#[68, 69, 76]⟩) _ 0 = none from ky.miss (k := [68, 69, 76]) (notin_of (by kernel_rfl))]
  intro h3 p3
  have ky := ky.of_put p3 [68, 69, 76] rfl
  have w : St [] h _ [.m mb _ _] := w.mput 0 rfl p3
  refine And.intro rfl (Exists.intro _ (Exists.intro _ (And.intro (w.get 0 rfl) (And.intro ky.fits ?_))))
  rw [show mfind (.string ⟨#[69, 88, 73, 83, 84, 83]⟩) _ 0 = none from ky.miss (k := [69, 88, 73, 83, 84, 83]) (notin_of (by kernel_rfl))]
  intro h4 p4
  have ky := ky.of_put p4 [69, 88, 73, 83, 84, 83] rfl
  have w : St [] h _ [.m mb _ _] := w.mput 0 rfl p4
  refine And.intro rfl (Exists.intro _ (Exists.intro _ (And.intro (w.get 0 rfl) (And.intro ky.fits ?_))))
  rw [show mfind (.string ⟨#[84, 89, 80, 69]⟩) _ 0 = none from ky.miss (k := [84, 89, 80, 69]) (notin_of (by kernel_rfl))]
  intro h5 p5
  have ky := ky.of_put p5 [84, 89, 80, 69] rfl
  have w : St [] h _ [.m mb _ _] := w.mput 0 rfl p5
  refine call_ret step_box ?_
  rintro _ h5a ⟨b5, rfl, gb5⟩
  have w := w.new gb5
  refine And.intro rfl (Exists.intro _ (Exists.intro _ (And.intro (w.get 1 rfl) (And.intro ky.fits ?_))))
  rw [show mfind (.string ⟨#[73, 78, 67, 82]⟩) _ 0 = none from ky.miss (k := [73, 78, 67, 82]) (notin_of (by kernel_rfl))]
  intro h6 p6
  have ky := ky.of_put p6 [73, 78, 67, 82] rfl
  have w : St [] h _ [.b b5 [.int .i64 1], .m mb _ _] := w.mput 1 rfl p6
  refine call_ret step_box ?_
  rintro _ h6a ⟨b6, rfl, gb6⟩
  have w := w.new gb6
  refine And.intro rfl (Exists.intro _ (Exists.intro _ (And.intro (w.get 2 rfl) (And.intro ky.fits ?_))))
  rw [show mfind (.string ⟨#[68, 69, 67, 82]⟩) _ 0 = none from ky.miss (k := [68, 69, 67, 82]) (notin_of (by kernel_rfl))]
  intro h7 p7
  have ky := ky.of_put p7 [68, 69, 67, 82] rfl
  have w : St [] h _ [.b b6 [.int .i64 (-1)], .b b5 [.int .i64 1], .m mb _ _] := w.mput 2 rfl p7
  refine And.intro rfl (Exists.intro _ (Exists.intro _ (And.intro (w.get 2 rfl) (And.intro ky.fits ?_))))
  rw [show mfind (.string ⟨#[73, 78, 67, 82, 66, 89]⟩) _ 0 = none from ky.miss (k := [73, 78, 67, 82, 66, 89]) (notin_of (by kernel_rfl))]
  intro h8 p8
  have ky := ky.of_put p8 [73, 78, 67, 82, 66, 89] rfl
  have w : St [] h _ [.b b6 [.int .i64 (-1)], .b b5 [.int .i64 1], .m mb _ _] := w.mput 2 rfl p8
  refine And.intro rfl (Exists.intro _ (Exists.intro _ (And.intro (w.get 2 rfl) (And.intro ky.fits ?_))))
  rw [show mfind (.string ⟨#[65, 80, 80, 69, 78, 68]⟩) _ 0 = none from ky.miss (k := [65, 80, 80, 69, 78, 68]) (notin_of (by kernel_rfl))]
  intro h9 p9
  have ky := ky.of_put p9 [65, 80, 80, 69, 78, 68] rfl
  have w : St [] h _ [.b b6 [.int .i64 (-1)], .b b5 [.int .i64 1], .m mb _ _] := w.mput 2 rfl p9
  refine And.intro rfl (Exists.intro _ (Exists.intro _ (And.intro (w.get 2 rfl) (And.intro ky.fits ?_))))
  rw [show mfind (.string ⟨#[83, 84, 82, 76, 69, 78]⟩) _ 0 = none from ky.miss (k := [83, 84, 82, 76, 69, 78]) (notin_of (by kernel_rfl))]
  intro h10 p10
  have ky := ky.of_put p10 [83, 84, 82, 76, 69, 78] rfl
  have w : St [] h _ [.b b6 [.int .i64 (-1)], .b b5 [.int .i64 1], .m mb _ _] := w.mput 2 rfl p10
  refine And.intro rfl (Exists.intro _ (Exists.intro _ (And.intro (w.get 2 rfl) (And.intro ky.fits ?_))))
  rw [show mfind (.string ⟨#[77, 71, 69, 84]⟩) _ 0 = none from ky.miss (k := [77, 71, 69, 84]) (notin_of (by kernel_rfl))]
  intro h11 p11
  have ky := ky.of_put p11 [77, 71, 69, 84] rfl
  have w : St [] h _ [.b b6 [.int .i64 (-1)], .b b5 [.int .i64 1], .m mb _ _] := w.mput 2 rfl p11
  refine And.intro rfl (Exists.intro _ (Exists.intro _ (And.intro (w.get 2 rfl) (And.intro ky.fits ?_))))
  rw [show mfind (.string ⟨#[77, 83, 69, 84]⟩) _ 0 = none from ky.miss (k := [77, 83, 69, 84]) (notin_of (by kernel_rfl))]
  intro h12 p12
  have ky := ky.of_put p12 [77, 83, 69, 84] rfl
  have w : St [] h _ [.b b6 [.int .i64 (-1)], .b b5 [.int .i64 1], .m mb _ _] := w.mput 2 rfl p12
  refine And.intro rfl (Exists.intro _ (Exists.intro _ (And.intro (w.get 2 rfl) (And.intro ky.fits ?_))))
  rw [show mfind (.string ⟨#[80, 69, 88, 80, 73, 82, 69]⟩) _ 0 = none from ky.miss (k := [80, 69, 88, 80, 73, 82, 69]) (notin_of (by kernel_rfl))]
  intro h13 p13
  have ky := ky.of_put p13 [80, 69, 88, 80, 73, 82, 69] rfl
  have w : St [] h _ [.b b6 [.int .i64 (-1)], .b b5 [.int .i64 1], .m mb _ _] := w.mput 2 rfl p13
  refine And.intro rfl (Exists.intro _ (Exists.intro _ (And.intro (w.get 2 rfl) (And.intro ky.fits ?_))))
  rw [show mfind (.string ⟨#[80, 69, 82, 83, 73, 83, 84]⟩) _ 0 = none from ky.miss (k := [80, 69, 82, 83, 73, 83, 84]) (notin_of (by kernel_rfl))]
  intro h14 p14
  have ky := ky.of_put p14 [80, 69, 82, 83, 73, 83, 84] rfl
  have w : St [] h _ [.b b6 [.int .i64 (-1)], .b b5 [.int .i64 1], .m mb _ _] := w.mput 2 rfl p14
  refine And.intro rfl (Exists.intro _ (Exists.intro _ (And.intro (w.get 2 rfl) (And.intro ky.fits ?_))))
  rw [show mfind (.string ⟨#[80, 84, 84, 76]⟩) _ 0 = none from ky.miss (k := [80, 84, 84, 76]) (notin_of (by kernel_rfl))]
  intro h15 p15
  have ky := ky.of_put p15 [80, 84, 84, 76] rfl
  have w : St [] h _ [.b b6 [.int .i64 (-1)], .b b5 [.int .i64 1], .m mb _ _] := w.mput 2 rfl p15
  refine And.intro rfl (Exists.intro _ (Exists.intro _ (And.intro (w.get 2 rfl) (And.intro ky.fits ?_))))
  rw [show mfind (.string ⟨#[75, 69, 89, 83]⟩) _ 0 = none from ky.miss (k := [75, 69, 89, 83]) (notin_of (by kernel_rfl))]
  intro h16 p16
  have ky := ky.of_put p16 [75, 69, 89, 83] rfl
  have w : St [] h _ [.b b6 [.int .i64 (-1)], .b b5 [.int .i64 1], .m mb _ _] := w.mput 2 rfl p16
  refine And.intro rfl (Exists.intro _ (Exists.intro _ (And.intro (w.get 2 rfl) (And.intro ky.fits ?_))))
  rw [show mfind (.string ⟨#[68, 66, 83, 73, 90, 69]⟩) _ 0 = none from ky.miss (k := [68, 66, 83, 73, 90, 69]) (notin_of (by kernel_rfl))]
  intro h17 p17
  have ky := ky.of_put p17 [68, 66, 83, 73, 90, 69] rfl
  have w : St [] h _ [.b b6 [.int .i64 (-1)], .b b5 [.int .i64 1], .m mb _ _] := w.mput 2 rfl p17
  refine And.intro rfl (Exists.intro _ (Exists.intro _ (And.intro (w.get 2 rfl) (And.intro ky.fits ?_))))
  rw [show mfind (.string ⟨#[70, 76, 85, 83, 72, 65, 76, 76]⟩) _ 0 = none from ky.miss (k := [70, 76, 85, 83, 72, 65, 76, 76]) (notin_of (by kernel_rfl))]
  intro h18 p18
  have ky := ky.of_put p18 [70, 76, 85, 83, 72, 65, 76, 76] rfl
  have w : St [] h _ [.b b6 [.int .i64 (-1)], .b b5 [.int .i64 1], .m mb _ _] := w.mput 2 rfl p18
  refine ⟨w.chg, mb, _, _, rfl, w.get 2 rfl, ky.fits, fun W => (CmF.found W ?_).2⟩
  exact ⟨rfl, rfl, rfl, rfl, rfl, rfl, rfl, rfl, rfl, rfl, rfl, ⟨b5, 0, rfl, cell_blk (w.get 1 rfl) rfl⟩, rfl, ⟨b6, 0, rfl, cell_blk (w.get 0 rfl) rfl⟩, rfl, rfl, rfl, rfl, rfl, rfl, rfl, rfl, rfl, rfl, rfl, rfl, rfl, rfl, rfl, rfl, rfl, rfl, rfl, rfl, rfl, rfl, trivial⟩

end Go.Proofs.YtgmkldaonkbjgaaGreatDoor
namespace Go.Proofs.YtgmkldaonkbjgaaGreatDoor
open Go Go.Sx Go.Proofs.YtgmkldaonkbjgaaGreatDoor.C

theorem none_nil {h : Heap} : CallsH Tryz.prog 28 [.pointer none] h (Ret fun r h' => r = .bool true ∧ h' = h) := by
  refine f28_calls (by simp) ?_
  exact And.intro rfl rfl

theorem same_nil {h : Heap} {kb sb mb : Nat} (x : KS h kb sb mb) : CallsH Tryz.prog 23 [ptr kb, .pointer none] h (Ret fun r h' => r = .bool false ∧ h' = h) := by
  refine f23_calls (by simp) ?_
  refine call_ret (none_calls x) ?_
  rintro _ h1 ⟨rfl, e⟩
  have e := e.symm
  subst e
  refine call_ret none_nil ?_
  rintro _ h1 ⟨rfl, e⟩
  have e := e.symm
  subst e
  refine call_ret (none_calls x) ?_
  rintro _ h1 ⟨rfl, e⟩
  have e := e.symm
  subst e
  exact And.intro rfl rfl

theorem sl_slc {α : Type} {enc : α → List Value} {size : Nat} {K : Value → Heap → Prop} {h : Heap} {a : Option Addr} {c : Nat} {l : List α} (hsz : ∀ x, (enc x).length = size) (hs : SL enc h (.slice a l.length c) l) {lo hi : Nat} (h0 : lo ≤ hi) (h1 : hi ≤ l.length)
    (hK : ∀ v, (∀ h', SL enc h' (.slice a l.length c) l → SL enc h' v ((l.drop lo).take (hi - lo))) → K v h) : slcR K h size a c (lo : Int) (hi : Int) := by
  have e1 : ((hi : Int) - (lo : Int)).toNat = hi - lo := by omega
  have e2 : ((c : Int) - (lo : Int)).toNat = c - lo := by omega
  have hlc := hs.len.2
  have hlen : ((l.drop lo).take (hi - lo)).length = hi - lo := by simp; omega
  obtain ⟨a', c', he, hc', h2⟩ := id hs
  cases he
  cases a with
  | none =>
    have hz : l.length = 0 := h2
    unfold slcR
    rw [e1, e2]
    refine hK _ fun h' _ => ⟨none, c - lo, by rw [hlen], by rw [hlen]; omega, ?_⟩
    show ((l.drop lo).take (hi - lo)).length = 0
    omega
  | some a =>
    obtain ⟨b, o, sp⟩ := a
    cases sp with
    | none =>
      intro o' ho1 ho2
      rw [e1, e2]
      refine hK _ fun h' hs' => (SL.cut hsz hs' h0 h1 (fun hlt => ?_) (fun hce => ?_))
      · rw [ho1 (by omega)]; simp
      · exact ho2 (by omega)
    | some q =>
      have hz : l.length = 0 := h2
      unfold slcR
      rw [e1, e2]
      refine And.intro (by omega) (hK _ fun h' _ => ⟨_, c - lo, by rw [hlen], by rw [hlen]; omega, ?_⟩)
      show ((l.drop lo).take (hi - lo)).length = 0
      omega

def DoR (h : Heap) (res : Except ByteArray (Rep × List Eff)) (r : Value) (h' : Heap) : Prop := Chg [] h h' ∧ match res with
  | .ok (q, E) => ∃ v lv, r = .tuple ⟨[v, lv, .bool true]⟩ ∧ RepAt 0 h' v q ∧ SL encD h' lv E ∧ ∀ b ∈ vblk lv, h.size ≤ b
  | .error why => r = .tuple ⟨[repV 2 0 why, .slice none 0 0, .bool true]⟩

def CapOk (h : Heap) : Option Int → List Value → Prop
  | none, cap => cap = []
  | some n, cap => ∃ b o, cap = [.pointer (some ⟨b, o, none⟩)] ∧ cell h b o = some (.int .i64 n)
theorem FnV.cap {h : Heap} {v : Value} {g : Nat} {z : Option Int} (hf : FnV h v g z) : ∃ cap, v = .func (.func g) #[] ⟨cap⟩ ∧ CapOk h z cap := by
  cases z with
  | none => exact ⟨[], hf, rfl⟩
  | some n => obtain ⟨b, o, rfl, hc⟩ := hf; exact ⟨_, rfl, b, o, rfl, hc⟩
theorem CapOk.ext {h h' : Heap} {z : Option Int} {cap : List Value} (x : CapOk h z cap) (hc : Chg [] h h') : CapOk h' z cap := by
  cases z with
  | none => exact x
  | some n => obtain ⟨b, o, rfl, h1⟩ := x; exact ⟨b, o, rfl, cell_chg h1 hc (by simp)⟩

theorem do_calls {h : Heap} {kb sb mb c g : Nat} {now : Int} {av : Value} {w : ByteArray} {A : List ByteArray} {m : List KI} {z : Option Int} {res : Except ByteArray (Rep × List Eff)} (kr : KR h kb sb mb c m)
    (hA : SL encS h av (w :: A)) (hl : (w :: A).length < 4611686018427387904) (hz : w.size < 4611686018427387904) (hno : lookF cmdF (up w) = some (g, z))
    (hf : ∀ h1 ab av' cap, CapOk h1 z cap → AS h h1 ab kb now av' A (.slice none 0 0) [] → CallsH Tryz.prog g ([ptr ab] ++ cap) h1 (CmdR h h1 ab kb now av' A (.slice none 0 0) res)) :
    CallsH Tryz.prog 11 [ptr kb, .int .i64 now, av] h (Ret (DoR h res)) := by
  obtain ⟨a, cc, rfl, hcc⟩ := hA.form
  obtain ⟨b0, o0, rfl⟩ := hA.addr (by simp)
  refine do_D (by simp) ?_
  intro b6 h1 g1
  have w1 := (St.start h).new g1
  intro b7 h2 g2
  have w2 := w1.new g2
  have c2 : Chg [] h h2 := w2.chg
  refine And.intro rfl (And.intro (fun h0 => absurd h0 (by simp; omega)) (fun _ => ?_))
  refine callp (same_nil (kr.ext c2).ks) ?_
  have hA2 := hA.ext c2
  have hc0 := hA2.cells encS_len (i := 0) (x := w) (by simp)
  refine And.intro (by decide) (And.intro (by simp) (Exists.intro _ (And.intro (by simpa using hc0 0 _ rfl) ?_)))
  refine callq_ret cmdsF_calls ?_
  rintro _ h3 ⟨c3, b, es, c', rfl, hm, hfit, hfd⟩
  refine And.intro c3.ext ?_
  refine callq_ret (bword_calls hz) ?_
  rintro _ h4 ⟨rfl, c4⟩
  refine And.intro c4.ext ?_
  refine And.intro rfl (Exists.intro es (Exists.intro c' (And.intro (hm.chg c4 (by simp)) (And.intro hfit ?_))))
  have hfind := hfd (up w)
  rw [hno] at hfind
  obtain ⟨i, v, hfind, hfn⟩ := hfind
  obtain ⟨cap, rfl, hcap⟩ := hfn.cap
  rw [hfind]
  have w4 := (w2.ext c3).ext c4
  refine And.intro (by decide) (And.intro (by simp only [List.length_cons]; omega) (And.intro (by omega) ?_))
  refine sl_slc (lo := 1) (hi := (w :: A).length) encS_len (hA.ext w4.chg) (by simp) (Nat.le_refl _) fun v1 hv1 => ?_
  have e1 : ((w :: A).drop 1).take ((w :: A).length - 1) = A := by simp
  rw [e1] at hv1
  obtain ⟨a1, cc1, rfl, hcc1⟩ := (hv1 h hA).form
  intro ab h5 g5
  have w5 := w4.new g5
  have z4 := w4.chg.size
  have i5 := g5.id
  have x5 : AS h h5 ab kb now (.slice a1 A.length cc1) A (.slice none 0 0) [] :=
    ⟨w5.chg, by omega, fun h' hc => hv1 h' (hA.ext hc), g5.blk, OL.nil, fun b hb => (nomatch (show b ∈ ([] : List Nat) from hb))⟩
  have toAs : ∀ {h6 lv6 E}, AS h h6 ab kb now (.slice a1 A.length cc1) A lv6 E → Aside h5 h6 ab (.slice none 0 0) lv6 → St [] h h6 [asE ab kb now (.slice a1 A.length cc1) lv6 E, .b b7 [.slice none 0 0], .b b6 [.int .i64 0, .int .i64 0, .string ⟨#[]⟩, .slice none 0 0]] := by
    intro h6 lv6 E x6 a6
    refine w5.set 0 rfl a6.2.1 (fun k hk => .inl hk) ⟨x6.blk, x6.effs, fun hm => (x6.own ab hm).2 rfl⟩ fun k hk => ?_
    rcases List.mem_cons.1 hk with rfl | hk
    · exact .inl (by simp [En.fp])
    · rcases a6.1 k hk with h9 | h9
      · exact nomatch (show k ∈ ([] : List Nat) from h9)
      · exact .inr h9
  refine call_out (hf h5 ab _ cap ((hcap.ext c4).ext g5.chg) x5) ?_ ?_
  · rintro v h6 ⟨q, E, he, ⟨ra, rn, rc, rfl, sl, fr⟩, lv6, x6, a6⟩
    subst he
    obtain ⟨la, ln, lc, rfl⟩ : ∃ a n c, lv6 = .slice a n c := let ⟨a, c, e, _⟩ := x6.effs; ⟨a, _, c, e⟩
    have w6 := toAs x6 a6
    have hi6 := g1.id
    have hi7 := g2.id
    have z1 := g1.size
    have z2 := g2.size
    have z3 := (c3.nil c4).size
    have z5 := g5.size
    have keep : ∀ {h7 h8 : Heap} {k : Nat}, k < h5.size → SL encQ h7 (.slice ra rn rc) q.l → Chg [k] h7 h8 → SL encQ h8 (.slice ra rn rc) q.l := fun hk sl hc => sl.chg hc fun b hb => by have := fr b hb; simp; omega
    have l6 : b6 < h5.size := by omega
    have l7 : b7 < h5.size := by omega
    refine w6.st2 2 rfl rfl rfl rfl fun h7 w7 k7 => ?_
    have sl := keep l6 sl k7
    refine w7.ldw 2 rfl rfl ?_
    refine And.intro ?_ ?_
    · refine w7.lda 0 rfl rfl ?_
      refine w7.st2 2 rfl rfl rfl rfl fun h8 w8 k8 => ?_
      refine w8.st2 1 rfl rfl rfl rfl fun h9 w9 k9 => ?_
      have sl := keep l7 (keep l6 sl k8) k9
      refine And.intro (by simp) (dodef_calm.mono ?_)
      rintro e u' h' ⟨⟨v, rfl⟩, rfl, rfl⟩
      exact ⟨_, rfl, cells_blk (w9.get 2 rfl), _, cell_blk (w9.get 1 rfl) rfl, w9.chg, _, _, rfl, ⟨ra, rn, rc, rfl, sl, fun _ _ => Nat.zero_le _⟩, (w9.get 0 rfl).2.1.sl, fun b hb => by
        rcases (w9.ents 0 _ rfl).2 b (List.mem_cons_of_mem _ hb) with h1 | h1
        · cases h1
        · exact h1⟩
    · refine w7.st2 2 rfl rfl rfl rfl fun h8 w8 k8 => ?_
      refine w8.lda 0 rfl rfl ?_
      refine w8.st2 1 rfl rfl rfl rfl fun h9 w9 k9 => ?_
      have sl := keep l7 (keep l6 sl k8) k9
      refine And.intro (by simp) (dodef_calm.mono ?_)
      rintro e u' h' ⟨⟨v, rfl⟩, rfl, rfl⟩
      exact ⟨_, rfl, cells_blk (w9.get 2 rfl), _, cell_blk (w9.get 1 rfl) rfl, w9.chg, _, _, rfl, ⟨ra, rn, rc, rfl, sl, fun _ _ => Nat.zero_le _⟩, (w9.get 0 rfl).2.1.sl, fun b hb => by
        rcases (w9.ents 0 _ rfl).2 b (List.mem_cons_of_mem _ hb) with h1 | h1
        · cases h1
        · exact h1⟩
  · rintro why h6 ⟨he, c6⟩
    subst he
    have w6 := w5.gone 0 rfl c6 (fun k hk => by
      rcases List.mem_cons.1 hk with rfl | hk
      · exact .inl (by simp [En.fp])
      · exact nomatch (show k ∈ ([] : List Nat) from hk))
    have hi6 := g1.id
    have hi7 := g2.id
    have z1 := g1.size
    refine And.intro (by simp) ((dodef_stop (w6.get 2 rfl) rfl (w6.get 1 rfl) (w6.ne 2 1 rfl rfl (by decide))).mono ?_)
    rintro e u' h' ⟨⟨v, rfl⟩, rfl, B6', B7', c7⟩
    exact ⟨_, rfl, cells_blk B6', _, cell_blk B7' rfl, w6.chg.fresh c7 (by simp; omega), rfl⟩

end Go.Proofs.YtgmkldaonkbjgaaGreatDoor
namespace Go.Proofs.YtgmkldaonkbjgaaGreatDoor
open Go Go.Sx Go.Proofs.YtgmkldaonkbjgaaGreatDoor.C

abbrev Res := Except ByteArray (Rep × List Eff)
def okR : Rep := rep 1 0 ⟨#[79, 75]⟩
def nilR : Rep := rep 0 0 noText
def numR (n : Int) : Rep := rep 3 n noText
def wRange : ByteArray := ⟨#[69, 82, 82, 32, 114, 97, 110, 103, 101]⟩
def keepsE (key : ByteArray) : Eff := ⟨4, key, noText, noText, 0⟩
def sNX : ByteArray := ⟨#[78, 88]⟩
def sPX : ByteArray := ⟨#[80, 88]⟩

instance memB (k : ByteArray) (l : List ByteArray) : Decidable (k ∈ l) := @List.instDecidableMemOfLawfulBEq _ instBEqOfDecidableEq _ k l
def cntB (k : ByteArray) (l : List ByteArray) : Nat := l.countP fun x => decide (x = k)
theorem cntB_zero {k : ByteArray} {l : List ByteArray} (h : k ∉ l) : cntB k l = 0 := List.countP_eq_zero.2 fun x hx he => h (of_decide_eq_true he ▸ hx)
theorem cntB_pos {k : ByteArray} {l : List ByteArray} (h : k ∈ l) : 0 < cntB k l := List.countP_pos_iff.2 ⟨k, h, decide_eq_true rfl⟩
theorem cntB_le {k : ByteArray} {l : List ByteArray} : cntB k l ≤ l.length := List.countP_le_length
theorem cntB_snoc {pre : List ByteArray} {k k' : ByteArray} : cntB k' (pre ++ [k]) = cntB k' pre + (if k' = k then 1 else 0) := by
  unfold cntB
  rw [List.countP_append, List.countP_singleton]
  by_cases h : k' = k
  · rw [if_pos (decide_eq_true h.symm), if_pos h]
  · rw [if_neg (by simp; exact fun e => h e.symm), if_neg h]

section
variable (S : Space) (now : Int)
def here (key : ByteArray) : Bool := (getS S key now).isSome

def setPx (key s : ByteArray) : Option Int → Res
  | none => .error wNum
  | some k => if k < 1 then .error wRange else if okSum now k then (if s.size ≤ 1048576 ∧ key.size ≤ 1048576 then .ok (okR, putE S key s now false ++ [untilE key (now + k)]) else .error wLong) else .error wOver
def setNx (key s : ByteArray) : Res := if here S now key = true then .ok (nilR, []) else putR S key s now false okR
def cSet (up : ByteArray → ByteArray) : List ByteArray → Res
  | [key, s] => putR S key s now false okR
  | [key, s, w] => if up w = sNX then setNx S now key s else .error wArgs
  | [key, s, w, n] => if up w = sPX then setPx S now key s (numOf n) else .error wArgs
  | _ => .error wArgs

def delL : List ByteArray → List ByteArray → List Eff
  | _, [] => []
  | pre, k :: ks => (if here S now k = true ∧ k ∉ pre then [goneE k] else []) ++ delL (pre ++ [k]) ks
def inMost (lo hi : Int) (A : List ByteArray) (r : Res) : Res := if lo ≤ A.length ∧ A.length ≤ hi then r else .error wArgs
def cDel (A : List ByteArray) : Res := inMost 1 65536 A (.ok (numR (delL S now [] A).length, delL S now [] A))
def cExists (A : List ByteArray) : Res := inMost 1 65536 A (.ok (numR (A.countP (here S now)), []))

def kindName : Int → ByteArray
  | 1 => ⟨#[115, 116, 114, 105, 110, 103]⟩
  | 2 => ⟨#[104, 97, 115, 104]⟩
  | 3 => ⟨#[108, 105, 115, 116]⟩
  | 4 => ⟨#[115, 101, 116]⟩
  | 5 => ⟨#[122, 115, 101, 116]⟩
  | _ => ⟨#[110, 111, 110, 101]⟩
def cKind : List ByteArray → Res := arg1 fun key => .ok (rep 1 0 (kindName ((getS S key now).getD zeroT).kind), [])

def mgetQ (key : ByteArray) : Int × Int × ByteArray := match getS S key now with
  | some t => if t.kind = 1 then (4, 0, t.text) else (0, 0, noText)
  | none => (0, 0, noText)
def cMget (A : List ByteArray) : Res := inMost 1 65536 A (.ok (⟨5, 0, noText, A.map (mgetQ S now)⟩, []))
def msetL : List ByteArray → List ByteArray → List Eff → Res
  | pre, k :: s :: r, E => if s.size ≤ 1048576 ∧ k.size ≤ 1048576 then msetL (pre ++ [k]) r (E ++ ((if k ∈ pre then [] else dropsS S k now) ++ [textE k s])) else .error wLong
  | _, _, E => .ok (okR, E)
def cMset (A : List ByteArray) : Res := inMost 2 65536 A (if A.length % 2 = 0 then msetL S now [] A [] else .error wArgs)

def gExpire (key : ByteArray) : Option Int → Res
  | none => .error wNum
  | some n => if here S now key = true then (if n < 1 then .ok (numR 1, [goneE key]) else if okSum now n then .ok (numR 1, [untilE key (now + n)]) else .error wOver) else .ok (numR 0, [])
def cExpire : List ByteArray → Res := arg2 fun key s => gExpire S now key (numOf s)
def gPersist (key : ByteArray) : Option Thing → Res
  | none => .ok (numR 0, [])
  | some t => if t.hasU = true then .ok (numR 1, [keepsE key]) else .ok (numR 0, [])
def cPersist : List ByteArray → Res := arg1 fun key => gPersist key (getS S key now)
def okLeft (a b : Int) : Prop := -9223372036854775808 ≤ a - b ∧ a - b ≤ 9223372036854775807
instance (a b : Int) : Decidable (okLeft a b) := by unfold okLeft; infer_instance
def gLeft : Option Thing → Res
  | none => .ok (numR (-2), [])
  | some t => if t.hasU = true then (if okLeft t.unt now then .ok (numR (t.unt - now), []) else .error wOver) else .ok (numR (-1), [])
def cLeft : List ByteArray → Res := arg1 fun key => gLeft now (getS S key now)

def arg0 (r : Res) : List ByteArray → Res
  | [] => r
  | _ => .error wArgs
def cNames : List ByteArray → Res := arg0 (.ok (⟨5, 0, noText, (liveS now S).map fun s => (4, 0, s)⟩, []))
def cSize : List ByteArray → Res := arg0 (.ok (numR (liveS now S).length, []))
def cFlush : List ByteArray → Res := arg0 (.ok (okR, S.map fun p => goneE p.1))
end

theorem arg0_bad {r : Res} {A : List ByteArray} (h : ¬ ((0 : Int) ≤ A.length ∧ (A.length : Int) ≤ 0)) : arg0 r A = .error wArgs := by
  match A, h with
  | [], h => exact absurd ⟨by simp, by simp⟩ h
  | x :: l, _ => rfl
theorem no_arg {α : Type} {A : List α} (h : (0 : Int) ≤ A.length ∧ (A.length : Int) ≤ 0) : A = [] := by
  match A, h with
  | [], _ => rfl
  | x :: l, h => simp at h; omega
theorem inMost_yes {lo hi : Int} {A : List ByteArray} {r : Res} (h : lo ≤ A.length ∧ A.length ≤ hi) : inMost lo hi A r = r := if_pos h
theorem inMost_no {lo hi : Int} {A : List ByteArray} {r : Res} (h : ¬ (lo ≤ A.length ∧ A.length ≤ hi)) : inMost lo hi A r = .error wArgs := if_neg h

end Go.Proofs.YtgmkldaonkbjgaaGreatDoor
namespace Go.Proofs.YtgmkldaonkbjgaaGreatDoor
open Go Go.Sx Go.Proofs.YtgmkldaonkbjgaaGreatDoor.C

def nothing8 : Value := .tuple ⟨[repV 0 0 noText, .slice none 0 0, .bool false]⟩

theorem do_empty {h : Heap} {kv nv : Value} {a : Option Addr} {cc : Nat} : CallsH Tryz.prog 11 [kv, nv, .slice a 0 cc] h (Ret fun r h' => r = nothing8 ∧ Chg [] h h') := by
  refine do_D (by simp) ?_
  intro b6 h1 g1
  have w := (St.start h).new g1
  intro b7 h2 g2
  have w := w.new g2
  refine And.intro rfl (And.intro (fun _ => ?_) (fun h0 => absurd rfl h0))
  refine w.st1 1 rfl rfl rfl rfl fun h5 w => ?_
  refine w.st1 0 rfl rfl rfl rfl fun h6 w => ?_
  exact ⟨_, rfl, cells_blk (w.get 1 rfl), _, cell_blk (w.get 0 rfl) rfl, rfl, w.chg⟩

theorem do_none {h : Heap} {kb sb mb c : Nat} {now : Int} {av : Value} {w W : ByteArray} {A : List ByteArray} {m : List KI} (kr : KR h kb sb mb c m) (hA : SL encS h av (w :: A)) (hl : (w :: A).length < 4611686018427387904) (hz : w.size < 4611686018427387904) (hno : lookF cmdF (up w) = none) :
    CallsH Tryz.prog 11 [ptr kb, .int .i64 now, av] h (Ret fun r h' => r = nothing8 ∧ Chg [] h h') := by
  obtain ⟨a, cc, rfl, hcc⟩ := hA.form
  obtain ⟨b0, o0, rfl⟩ := hA.addr (by simp)
  refine do_D (by simp) ?_
  intro b6 h1 g1
  have w1 := (St.start h).new g1
  intro b7 h2 g2
  have w2 := w1.new g2
  have c2 : Chg [] h h2 := w2.chg
  refine And.intro rfl (And.intro (fun h0 => absurd h0 (by simp; omega)) (fun _ => ?_))
  refine callp (same_nil (kr.ext c2).ks) ?_
  have hA2 := hA.ext c2
  have hc0 := hA2.cells encS_len (i := 0) (x := w) (by simp)
  refine And.intro (by decide) (And.intro (by simp) (Exists.intro _ (And.intro (by simpa using hc0 0 _ rfl) ?_)))
  refine callq_ret cmdsF_calls ?_
  rintro _ h3 ⟨c3, b, es, c', rfl, hm, hfit, hfd⟩
  refine And.intro c3.ext ?_
  refine callq_ret (bword_calls hz) ?_
  rintro _ h4 ⟨rfl, c4⟩
  refine And.intro c4.ext ?_
  refine And.intro rfl (Exists.intro es (Exists.intro c' (And.intro (hm.chg c4 (by simp)) (And.intro hfit ?_))))
  have hfind := hfd (up w)
  rw [hno] at hfind
  have hfind : mfind (.string (up w)) es 0 = none := hfind
  rw [hfind]
  have w4 := (w2.ext c3).ext c4
  refine w4.st1 1 rfl rfl rfl rfl fun h5 w5 => ?_
  refine w5.st1 0 rfl rfl rfl rfl fun h6 w6 => ?_
  exact ⟨_, rfl, cells_blk (w6.get 1 rfl), _, cell_blk (w6.get 0 rfl) rfl, rfl, w6.chg⟩

theorem do_plain {h : Heap} {kb sb mb c g : Nat} {now : Int} {av : Value} {w : ByteArray} {A : List ByteArray} {m : List KI} {res : Res} (kr : KR h kb sb mb c m)
    (hA : SL encS h av (w :: A)) (hl : (w :: A).length < 4611686018427387904) (hz : w.size < 4611686018427387904) (hno : lookF cmdF (up w) = some (g, none))
    (hf : ∀ h1 ab av', AS h h1 ab kb now av' A (.slice none 0 0) [] → CallsH Tryz.prog g [ptr ab] h1 (CmdR h h1 ab kb now av' A (.slice none 0 0) res)) :
    CallsH Tryz.prog 11 [ptr kb, .int .i64 now, av] h (Ret (DoR h res)) :=
  do_calls kr hA hl hz hno fun h1 ab av' cap hc x => by
    have hc : cap = [] := hc
    subst hc
    exact hf h1 ab av' x
theorem do_step {h : Heap} {kb sb mb c : Nat} {now n : Int} {av : Value} {w : ByteArray} {A : List ByteArray} {m : List KI} {S : Space} (kr : KR h kb sb mb c m) (hs : Sorted m S) (hla : LaidN h) (hT : TextS S)
    (hA : SL encS h av (w :: A)) (hl : (w :: A).length < 4611686018427387904) (hz : ∀ s ∈ w :: A, s.size < 281474976710656) (hn : In64 n) (hno : lookF cmdF (up w) = some (110, some n)) :
    CallsH Tryz.prog 11 [ptr kb, .int .i64 now, av] h (Ret (DoR h (cStep S now n A))) :=
  do_calls kr hA hl (by have := hz w (by simp); omega) hno fun h1 ab av' cap hc x => by
    obtain ⟨b, o, rfl, hc⟩ := hc
    exact step_calls x kr hs hla hc hn (fun s hs => hz s (by simp [hs])) hT

end Go.Proofs.YtgmkldaonkbjgaaGreatDoor
namespace Go.Proofs.YtgmkldaonkbjgaaGreatDoor
open Go Go.Sx Go.Proofs.YtgmkldaonkbjgaaGreatDoor.C

def allS : Space → List Eff → Option Space
  | S, [] => some S
  | S, e :: E => if (fateS S e).num = 0 then allS ((fateS S e).space S e.key) E else none

theorem all_apply : ∀ {E : List Eff} {S S' : Space}, allS S E = some S' → applyS S E = (S', E.length, 0)
  | [], S, S', h => by simp [allS] at h; subst h; rfl
  | e :: E, S, S', h => by
    simp only [allS] at h
    split at h
    · rename_i hz
      rw [applyS_yes hz, all_apply h]; rfl
    · cases h
theorem all_append : ∀ {E F : List Eff} {S : Space}, allS S (E ++ F) = (allS S E).bind fun S' => allS S' F
  | [], F, S => rfl
  | e :: E, F, S => by
    simp only [List.cons_append, allS]
    split
    · exact all_append
    · rfl
theorem all_then {E F : List Eff} {S S1 S2 : Space} (h1 : allS S E = some S1) (h2 : allS S1 F = some S2) : allS S (E ++ F) = some S2 := by rw [all_append, h1]; exact h2
theorem all_one {e : Eff} {S : Space} (h : (fateS S e).num = 0) : allS S [e] = some ((fateS S e).space S e.key) := by simp only [allS]; rw [if_pos h]

theorem find_put {S : Space} {key k : ByteArray} {t : Thing} (hu : UpS S) : findS (putS S key t) k = if k = key then some t else findS S k := by
  split
  · rename_i e
    subst e
    exact findS_some (up_putS hu) (mem_putS.2 (.inl rfl))
  · rename_i hne
    cases hf : findS S k with
    | none =>
      refine findS_none fun p hp e => ?_
      rcases mem_putS.1 hp with rfl | ⟨h1, _⟩
      · exact hne e.symm
      · have : findS S p.1 = some p.2 := findS_some hu h1
        rw [e, hf] at this; cases this
    | some u => exact findS_some (up_putS hu) (mem_putS.2 (.inr ⟨findS_mem hf, hne⟩))
theorem find_drop {S : Space} {key k : ByteArray} (hu : UpS S) : findS (dropS S key) k = if k = key then none else findS S k := by
  split
  · rename_i e
    subst e
    exact findS_none fun p hp e => (mem_dropS.1 hp).2 e
  · rename_i hne
    cases hf : findS S k with
    | none =>
      refine findS_none fun p hp e => ?_
      have : findS S p.1 = some p.2 := findS_some hu (mem_dropS.1 hp).1
      rw [e, hf] at this; cases this
    | some u => exact findS_some (up_dropS hu) (mem_dropS.2 ⟨findS_mem hf, hne⟩)
theorem len_drop {S : Space} {key : ByteArray} : (dropS S key).length ≤ S.length := List.length_filter_le _ _
theorem len_parts : ∀ (S : Space) (key : ByteArray), (S.filter fun p => sless p.1 key).length + (S.filter fun p => sless key p.1).length ≤ S.length
  | [], _ => Nat.le_refl _
  | p :: S, key => by
    have ih := len_parts S key
    simp only [List.filter_cons]
    split
    · rename_i h1
      split
      · rename_i h2
        have := sless_trans h1 h2
        rw [sless_irrefl] at this; cases this
      · simp; omega
    · split <;> simp <;> omega
theorem len_put {S : Space} {key : ByteArray} {t : Thing} : (putS S key t).length ≤ S.length + 1 := by
  have := len_parts S key
  unfold putS
  simp; omega

section
variable {S : Space} {k s : ByteArray} {t : Thing} {n : Int}

theorem oneF_some {e : Eff} {r : Rule} {full : Bool} (hr : ruleR e.op = some r) (h1 : ¬ ((r.name = false ∧ e.name ≠ noText) ∨ (r.text = false ∧ e.text ≠ noText) ∨ (r.number = false ∧ e.num ≠ 0)))
    (h2 : ¬ (1048576 < e.key.size ∨ 1048576 < e.name.size ∨ 1048576 < e.text.size)) (h3 : ¬ (r.kind ≠ 0 ∧ t.kind ≠ r.kind)) : oneF (some t) e full = endF (doneT t e) true full := by
  unfold oneF
  rw [hr]
  simp only
  rw [if_neg h1, if_neg h2, if_neg h3]
theorem oneF_none {e : Eff} {r : Rule} {full : Bool} (hr : ruleR e.op = some r) (h1 : ¬ ((r.name = false ∧ e.name ≠ noText) ∨ (r.text = false ∧ e.text ≠ noText) ∨ (r.number = false ∧ e.num ≠ 0)))
    (h2 : ¬ (1048576 < e.key.size ∨ 1048576 < e.name.size ∨ 1048576 < e.text.size)) (h3 : ¬ r.makes = false) : oneF none e full = endF (doneT { zeroT with kind := r.kind } e) false full := by
  unfold oneF
  rw [hr]
  simp only
  rw [if_neg h1, if_neg h2, if_neg h3]
theorem no_size : noText.size = 0 := rfl

theorem fate_gone (hf : findS S k = some t) (hk : k.size ≤ 1048576) : fateS S (goneE k) = .drop := by
  show oneF (findS S k) (goneE k) _ = _
  rw [hf, oneF_some (r := ⟨false, false, false, 0, false, 117⟩) rfl (by rintro (⟨_, h⟩ | ⟨_, h⟩ | ⟨_, h⟩) <;> exact h rfl)
    (by rintro (h | h | h)
        · exact absurd h (by show ¬ 1048576 < k.size; omega)
        · exact absurd h (by show ¬ 1048576 < noText.size; rw [no_size]; decide)
        · exact absurd h (by show ¬ 1048576 < noText.size; rw [no_size]; decide)) (fun h => h.1 rfl)]
  rfl

theorem end_text (there : Bool) (hl : S.length < 65536) : endF (textT s, 0) there (decide (65536 ≤ S.length)) = .put (textT s) := by
  unfold endF
  rw [if_neg (fun h => h rfl), if_neg (fun h => h.1 rfl), if_neg]
  rintro (h | ⟨_, h⟩)
  · exact absurd h (by show ¬ 65536 < (0 : Nat) + 0 + 0; omega)
  · have := of_decide_eq_true h; omega
theorem fate_text (hl : S.length < 65536) (hk : k.size ≤ 1048576) (hs : s.size ≤ 1048576) : fateS S (textE k s) = .put (textT s) := by
  have h1 : ¬ (((⟨false, true, false, 0, true, 118⟩ : Rule).name = false ∧ (textE k s).name ≠ noText) ∨ ((⟨false, true, false, 0, true, 118⟩ : Rule).text = false ∧ (textE k s).text ≠ noText) ∨ ((⟨false, true, false, 0, true, 118⟩ : Rule).number = false ∧ (textE k s).num ≠ 0)) := by
    rintro (⟨_, h⟩ | ⟨h, _⟩ | ⟨_, h⟩)
    · exact h rfl
    · cases h
    · exact h rfl
  have h2 : ¬ (1048576 < (textE k s).key.size ∨ 1048576 < (textE k s).name.size ∨ 1048576 < (textE k s).text.size) := by
    rintro (h | h | h)
    · exact absurd h (by show ¬ 1048576 < k.size; omega)
    · exact absurd h (by show ¬ 1048576 < noText.size; rw [no_size]; decide)
    · exact absurd h (by show ¬ 1048576 < s.size; omega)
  show oneF (findS S k) (textE k s) _ = _
  cases findS S k with
  | none => rw [oneF_none (r := ⟨false, true, false, 0, true, 118⟩) rfl h1 h2 (by decide)]; exact end_text false hl
  | some t => rw [oneF_some (r := ⟨false, true, false, 0, true, 118⟩) rfl h1 h2 (fun h => h.1 rfl)]; exact end_text true hl

theorem endF_stay {t' : Thing} {full : Bool} (hc : countT t' ≤ 65536) : (endF (t', 0) true full).num = 0 ∧ (t'.kind = 1 → endF (t', 0) true full = .put t') := by
  unfold endF
  rw [if_neg (fun h => h rfl)]
  have hc' : ¬ (65536 < countT (t', (0 : Int)).1 ∨ (true = false ∧ full = true)) := by
    rintro (h | ⟨h, _⟩)
    · exact absurd h (by show ¬ 65536 < countT t'; omega)
    · cases h
  by_cases h1 : (t', (0 : Int)).1.kind ≠ 1 ∧ countT (t', (0 : Int)).1 = 0
  · rw [if_pos h1]; exact ⟨rfl, fun h => absurd h h1.1⟩
  · rw [if_neg h1, if_neg hc']; exact ⟨rfl, fun _ => rfl⟩
theorem fate_until (hf : findS S k = some t) (hk : k.size ≤ 1048576) (hc : countT t ≤ 65536) : (fateS S (untilE k n)).num = 0 ∧ (t.kind = 1 → fateS S (untilE k n) = .put { t with hasU := true, unt := n }) := by
  have e : fateS S (untilE k n) = endF ({ t with hasU := true, unt := n }, 0) true (decide (65536 ≤ S.length)) := by
    show oneF (findS S k) (untilE k n) _ = _
    rw [hf, oneF_some (r := ⟨false, false, true, 0, false, 119⟩) rfl (by
      rintro (⟨_, h⟩ | ⟨_, h⟩ | ⟨h, _⟩)
      · exact h rfl
      · exact h rfl
      · cases h) (by
      rintro (h | h | h)
      · exact absurd h (by show ¬ 1048576 < k.size; omega)
      · exact absurd h (by show ¬ 1048576 < noText.size; rw [no_size]; decide)
      · exact absurd h (by show ¬ 1048576 < noText.size; rw [no_size]; decide)) (fun h => h.1 rfl)]
    rfl
  rw [e]
  exact endF_stay (t' := { t with hasU := true, unt := n }) hc

theorem fate_keeps (hf : findS S k = some t) (hk : k.size ≤ 1048576) (hc : countT t ≤ 65536) : (fateS S (keepsE k)).num = 0 := by
  have e : fateS S (keepsE k) = endF ({ t with hasU := false, unt := 0 }, 0) true (decide (65536 ≤ S.length)) := by
    show oneF (findS S k) (keepsE k) _ = _
    rw [hf, oneF_some (r := ⟨false, false, false, 0, false, 120⟩) rfl (by rintro (⟨_, h⟩ | ⟨_, h⟩ | ⟨_, h⟩) <;> exact h rfl) (by
      rintro (h | h | h)
      · exact absurd h (by show ¬ 1048576 < k.size; omega)
      · exact absurd h (by show ¬ 1048576 < noText.size; rw [no_size]; decide)
      · exact absurd h (by show ¬ 1048576 < noText.size; rw [no_size]; decide)) (fun h => h.1 rfl)]
    rfl
  rw [e]
  exact (endF_stay (t' := { t with hasU := false, unt := 0 }) hc).1
end

theorem getS_find {S : Space} {k : ByteArray} {now : Int} {t : Thing} (h : getS S k now = some t) : findS S k = some t := by
  unfold getS at h
  split at h
  · rename_i u hu
    split at h
    · cases h
    · rw [hu]; exact h
  · cases h
def KeyS (S : Space) : Prop := ∀ p ∈ S, p.1.size ≤ 1048576
theorem KeyS.of {S : Space} (hk : KeyS S) {k : ByteArray} {t : Thing} (h : findS S k = some t) : k.size ≤ 1048576 := hk _ (findS_mem h)

theorem all_gone : ∀ {L : List ByteArray} {S : Space}, UpS S → KeyS S → L.Nodup → (∀ k ∈ L, (findS S k).isSome = true) → ∃ S', allS S (L.map goneE) = some S' ∧ UpS S' ∧ S'.length ≤ S.length
  | [], S, hu, _, _, _ => ⟨S, rfl, hu, Nat.le_refl _⟩
  | k :: L, S, hu, hk, hn, hs => by
    obtain ⟨hkn, hn⟩ := List.nodup_cons.1 hn
    obtain ⟨t, ht⟩ := Option.isSome_iff_exists.1 (hs k (by simp))
    have hf := fate_gone ht (hk.of ht)
    obtain ⟨S', h1, h2, h3⟩ := all_gone (L := L) (up_dropS (key := k) hu) (fun p hp => hk p (mem_dropS.1 hp).1) hn fun k' hk' => by
      rw [find_drop hu, if_neg (fun e : k' = k => hkn (e ▸ hk'))]
      exact hs k' (by simp [hk'])
    refine ⟨S', ?_, h2, Nat.le_trans h3 len_drop⟩
    simp only [List.map_cons, allS]
    rw [hf]
    exact h1

theorem delL_keys {S : Space} {now : Int} : ∀ (L pre : List ByteArray), ∃ K : List ByteArray, delL S now pre L = K.map goneE ∧ K.Nodup ∧ ∀ k ∈ K, k ∉ pre ∧ here S now k = true
  | [], pre => ⟨[], rfl, List.nodup_nil, by simp⟩
  | k :: L, pre => by
    obtain ⟨K, h1, h2, h3⟩ := delL_keys L (pre ++ [k])
    simp only [delL]
    split
    · rename_i hc
      refine ⟨k :: K, by rw [h1]; rfl, List.nodup_cons.2 ⟨fun hm => (h3 k hm).1 (by simp), h2⟩, fun k' hk' => ?_⟩
      rcases List.mem_cons.1 hk' with rfl | hk'
      · exact ⟨hc.2, hc.1⟩
      · exact ⟨fun hm => (h3 k' hk').1 (by simp [hm]), (h3 k' hk').2⟩
    · exact ⟨K, by rw [h1]; rfl, h2, fun k' hk' => ⟨fun hm => (h3 k' hk').1 (by simp [hm]), (h3 k' hk').2⟩⟩

theorem up_keys {S : Space} (hu : UpS S) : (S.map Prod.fst).Nodup := by
  unfold List.Nodup
  rw [List.pairwise_map]
  exact hu.imp fun h e => sless_ne h e

theorem all_text {S : Space} {k s : ByteArray} (hu : UpS S) (hl : S.length < 65536) (hk : k.size ≤ 1048576) (hs : s.size ≤ 1048576) : allS S [textE k s] = some (putS S k (textT s)) := by
  have hf := fate_text (k := k) (s := s) hl hk hs
  rw [all_one (by rw [hf]; rfl), hf]; rfl
theorem all_drops {S : Space} {k : ByteArray} {now : Int} (hu : UpS S) (hk : k.size ≤ 1048576) : ∃ S', allS S (dropsS S k now) = some S' ∧ UpS S' ∧ S'.length ≤ S.length ∧ (∀ k', k' ≠ k → findS S' k' = findS S k') := by
  unfold dropsS
  split
  · rename_i hc
    obtain ⟨t, ht⟩ := Option.isSome_iff_exists.1 hc.1
    have hf := fate_gone ht hk
    refine ⟨dropS S k, by rw [all_one (by rw [hf]; rfl), hf]; rfl, up_dropS hu, len_drop, fun k' hne => ?_⟩
    rw [find_drop hu, if_neg hne]
  · exact ⟨S, rfl, hu, Nat.le_refl _, fun _ _ => rfl⟩

theorem all_put {S : Space} {k s : ByteArray} {now : Int} {stays : Bool} (hu : UpS S) (hl : S.length < 65536) (hk : k.size ≤ 1048576) (hs : s.size ≤ 1048576) :
    ∃ S' u v, allS S (putE S k s now stays) = some S' ∧ UpS S' ∧ findS S' k = some { textT s with hasU := u, unt := v } ∧ (stays = false → u = false ∧ v = 0) ∧ S'.length ≤ S.length + 2 := by
  obtain ⟨S1, h1, u1, l1, _⟩ := all_drops (now := now) hu hk
  have h2 := all_text (S := S1) (k := k) (s := s) u1 (by omega) hk hs
  have f2 : findS (putS S1 k (textT s)) k = some (textT s) := by rw [find_put u1, if_pos rfl]
  have l2 := len_put (S := S1) (key := k) (t := textT s)
  unfold putE
  have none_ : keepE (getS S k now) k stays = [] → ∃ S' u v, allS S (dropsS S k now ++ ([textE k s] ++ keepE (getS S k now) k stays)) = some S' ∧ UpS S' ∧ findS S' k = some { textT s with hasU := u, unt := v } ∧ (stays = false → u = false ∧ v = 0) ∧ S'.length ≤ S.length + 2 := fun e => by
    rw [e]
    exact ⟨_, false, 0, all_then h1 h2, up_putS u1, f2, fun _ => ⟨rfl, rfl⟩, by omega⟩
  cases hg : getS S k now with
  | none => rw [hg] at none_; exact none_ rfl
  | some t =>
    rw [hg] at none_
    by_cases hc : stays = true ∧ t.hasU = true
    · have e : keepE (some t) k stays = [untilE k t.unt] := if_pos hc
      rw [e]
      have hf := (fate_until (n := t.unt) f2 hk (by show (0 : Nat) + 0 + 0 ≤ 65536; omega)).2 rfl
      have h3 : allS (putS S1 k (textT s)) [untilE k t.unt] = some (putS (putS S1 k (textT s)) k { textT s with hasU := true, unt := t.unt }) := by
        rw [all_one (by rw [hf]; rfl), hf]; rfl
      refine ⟨_, true, t.unt, all_then h1 (all_then h2 h3), up_putS (up_putS u1), by rw [find_put (up_putS u1), if_pos rfl], fun hs => ?_, ?_⟩
      · rw [hs] at hc; cases hc.1
      · have := len_put (S := putS S1 k (textT s)) (key := k) (t := { textT s with hasU := true, unt := t.unt })
        omega
    · exact none_ (if_neg hc)

structure Few (S : Space) : Prop where
  up : UpS S
  keys : KeyS S
  len : S.length ≤ 20
  ins : InS S

theorem Few.count {S : Space} (f : Few S) {k : ByteArray} {t : Thing} (h : findS S k = some t) : countT t ≤ 65536 := (f.ins _ (findS_mem h)).good.few

theorem putR_done {S : Space} {k s : ByteArray} {now : Int} {stays : Bool} {r q : Rep} {E : List Eff} (f : Few S) (h : putR S k s now stays r = .ok (q, E)) : ∃ S', allS S E = some S' := by
  unfold putR at h
  split at h
  · rename_i hc
    simp at h
    obtain ⟨_, rfl⟩ := h
    have := f.len
    obtain ⟨S', _, _, h1, _⟩ := all_put (now := now) (stays := stays) f.up (by omega) hc.2 hc.1
    exact ⟨S', h1⟩
  · cases h

theorem set_done {S : Space} {now : Int} {up : ByteArray → ByteArray} {A : List ByteArray} {q : Rep} {E : List Eff} (f : Few S) (h : cSet S now up A = .ok (q, E)) : ∃ S', allS S E = some S' := by
  unfold cSet at h
  split at h
  · exact putR_done f h
  · split at h
    · unfold setNx at h
      split at h
      · simp at h; obtain ⟨_, rfl⟩ := h; exact ⟨S, rfl⟩
      · exact putR_done f h
    · cases h
  · split at h
    · unfold setPx at h
      split at h
      · cases h
      · split at h
        · cases h
        · split at h
          · split at h
            · rename_i hc
              simp at h
              obtain ⟨_, rfl⟩ := h
              have := f.len
              obtain ⟨S', u, v, h1, _, h3, _⟩ := all_put (now := now) (stays := false) f.up (by omega) hc.2 hc.1
              refine ⟨_, all_then h1 (all_one (fate_until h3 hc.2 ?_).1)⟩
              show (0 : Nat) + 0 + 0 ≤ 65536; omega
            · cases h
          · cases h
    · cases h
  · cases h

theorem del_done {S : Space} {now : Int} {A : List ByteArray} {q : Rep} {E : List Eff} (f : Few S) (h : cDel S now A = .ok (q, E)) : ∃ S', allS S E = some S' := by
  unfold cDel inMost at h
  split at h
  · simp at h
    obtain ⟨_, rfl⟩ := h
    obtain ⟨K, h1, h2, h3⟩ := delL_keys (S := S) (now := now) A []
    rw [h1]
    obtain ⟨S', h4, _⟩ := all_gone f.up f.keys h2 fun k hk => by
      obtain ⟨t, ht⟩ := Option.isSome_iff_exists.1 (h3 k hk).2
      rw [getS_find ht]; rfl
    exact ⟨S', h4⟩
  · cases h

theorem mset_done {S : Space} {now : Int} {up0 : UpS S} : ∀ (n : Nat) (L pre : List ByteArray) (E0 : List Eff) (S1 : Space) (q : Rep) (E : List Eff), L.length ≤ n → allS S E0 = some S1 → UpS S1 → S1.length + L.length < 65536 →
    (∀ k, k ∉ pre → findS S1 k = findS S k) → msetL S now pre L E0 = .ok (q, E) → ∃ S', allS S E = some S'
  | 0, L, pre, E0, S1, q, E, hn, h0, _, _, _, h => by
    have : L = [] := by simpa using hn
    subst this
    simp [msetL] at h
    obtain ⟨_, rfl⟩ := h
    exact ⟨S1, h0⟩
  | n + 1, [], pre, E0, S1, q, E, _, h0, _, _, _, h => by
    simp [msetL] at h
    obtain ⟨_, rfl⟩ := h
    exact ⟨S1, h0⟩
  | n + 1, [x], pre, E0, S1, q, E, _, h0, _, _, _, h => by
    simp [msetL] at h
    obtain ⟨_, rfl⟩ := h
    exact ⟨S1, h0⟩
  | n + 1, k :: s :: L, pre, E0, S1, q, E, hn, h0, u1, hl, hf, h => by
    simp only [msetL] at h
    split at h
    · rename_i hc
      simp only [List.length_cons] at hl hn
      have step : ∃ S2, allS S1 ((if k ∈ pre then [] else dropsS S k now) ++ [textE k s]) = some S2 ∧ UpS S2 ∧ S2.length ≤ S1.length + 1 ∧ ∀ k', k' ≠ k → findS S2 k' = findS S1 k' := by
        by_cases hp : k ∈ pre
        · rw [if_pos hp]
          refine ⟨_, all_text u1 (by omega) hc.2 hc.1, up_putS u1, len_put, fun k' hne => by rw [find_put u1, if_neg hne]⟩
        · rw [if_neg hp]
          have e : dropsS S k now = dropsS S1 k now := by
            unfold dropsS getS
            rw [hf k hp]
          rw [e]
          obtain ⟨S2, h2, u2, l2, f2⟩ := all_drops (now := now) u1 hc.2
          refine ⟨_, all_then h2 (all_text u2 (by omega) hc.2 hc.1), up_putS u2, Nat.le_trans len_put (by omega), fun k' hne => by rw [find_put u2, if_neg hne, f2 k' hne]⟩
      obtain ⟨S2, h2, u2, l2, f2⟩ := step
      refine mset_done (up0 := up0) n L (pre ++ [k]) _ S2 q E (by omega) (all_then h0 h2) u2 (by omega) (fun k' hk' => ?_) h
      have h3 : k' ≠ k := fun e => hk' (by simp [e])
      have h4 : k' ∉ pre := fun e => hk' (by simp [e])
      rw [f2 k' h3, hf k' h4]
    · cases h

theorem mset_ok {S : Space} {now : Int} {A : List ByteArray} {q : Rep} {E : List Eff} (f : Few S) (hA : A.length ≤ 60000) (h : cMset S now A = .ok (q, E)) : ∃ S', allS S E = some S' := by
  unfold cMset inMost at h
  split at h
  · split at h
    · have := f.len
      exact mset_done (up0 := f.up) A.length A [] [] S q E (Nat.le_refl _) rfl f.up (by omega) (fun _ _ => rfl) h
    · cases h
  · cases h

theorem here_find {S : Space} {now : Int} {k : ByteArray} (h : here S now k = true) : ∃ t, findS S k = some t := by
  obtain ⟨t, ht⟩ := Option.isSome_iff_exists.1 h
  exact ⟨t, getS_find ht⟩

theorem expire_done {S : Space} {now : Int} {A : List ByteArray} {q : Rep} {E : List Eff} (f : Few S) (h : cExpire S now A = .ok (q, E)) : ∃ S', allS S E = some S' := by
  unfold cExpire arg2 at h
  split at h
  · rename_i key s
    have h : gExpire S now key (numOf s) = .ok (q, E) := h
    unfold gExpire at h
    split at h
    · cases h
    · split at h
      · rename_i hh
        obtain ⟨t, ht⟩ := here_find hh
        have hk := f.keys.of ht
        split at h
        · simp at h; obtain ⟨_, rfl⟩ := h
          have hf := fate_gone ht hk
          exact ⟨_, all_one (by rw [hf]; rfl)⟩
        · split at h
          · simp at h; obtain ⟨_, rfl⟩ := h
            exact ⟨_, all_one (fate_until ht hk (f.count ht)).1⟩
          · cases h
      · simp at h; obtain ⟨_, rfl⟩ := h; exact ⟨S, rfl⟩
  · cases h

theorem persist_done {S : Space} {now : Int} {A : List ByteArray} {q : Rep} {E : List Eff} (f : Few S) (h : cPersist S now A = .ok (q, E)) : ∃ S', allS S E = some S' := by
  unfold cPersist arg1 at h
  split at h
  · rename_i key
    have h : gPersist key (getS S key now) = .ok (q, E) := h
    cases hg : getS S key now with
    | none => rw [hg] at h; simp [gPersist] at h; obtain ⟨_, rfl⟩ := h; exact ⟨S, rfl⟩
    | some t =>
      rw [hg] at h
      simp only [gPersist] at h
      split at h
      · simp at h; obtain ⟨_, rfl⟩ := h
        have ht := getS_find hg
        exact ⟨_, all_one (fate_keeps ht (f.keys.of ht) (f.count ht))⟩
      · simp at h; obtain ⟨_, rfl⟩ := h; exact ⟨S, rfl⟩
  · cases h

theorem flush_done {S : Space} {A : List ByteArray} {q : Rep} {E : List Eff} (f : Few S) (h : cFlush S A = .ok (q, E)) : ∃ S', allS S E = some S' := by
  unfold cFlush arg0 at h
  split at h
  · simp at h; obtain ⟨_, rfl⟩ := h
    have e : (S.map fun p => goneE p.1) = (S.map Prod.fst).map goneE := by rw [List.map_map]; rfl
    rw [e]
    obtain ⟨S', h4, _⟩ := all_gone f.up f.keys (up_keys f.up) fun k hk => by
      obtain ⟨p, hp, rfl⟩ := List.mem_map.1 hk
      rw [findS_some f.up (t := p.2) hp]; rfl
    exact ⟨S', h4⟩
  · cases h

end Go.Proofs.YtgmkldaonkbjgaaGreatDoor
namespace Go.Proofs.YtgmkldaonkbjgaaGreatDoor
open Go Go.Sx Go.Proofs.YtgmkldaonkbjgaaGreatDoor.C

section
variable {h0 h : Heap} {ab kb sb mb c : Nat} {now n : Int} {av lv : Value} {A : List ByteArray} {m : List KI} {S : Space} {key s a : ByteArray} {t : Thing} {go : Option Thing} {q : Rep} {E : List Eff}

def KindS (S : Space) : Prop := ∀ p ∈ S, 1 ≤ p.2.kind ∧ p.2.kind ≤ 5
theorem kindS_get (hk : KindS S) : 0 ≤ ((getS S key now).getD zeroT).kind ∧ ((getS S key now).getD zeroT).kind ≤ 5 := by
  cases hg : getS S key now with
  | none => exact ⟨by decide, by decide⟩
  | some t =>
    have : findS S key = some t := by
      unfold getS at hg
      split at hg
      · rename_i u hu
        split at hg
        · cases hg
        · rw [hu]; exact hg
      · cases hg
    have := hk _ (findS_mem this)
    have k1 : 1 ≤ t.kind := this.1
    exact ⟨by show 0 ≤ t.kind; omega, this.2⟩

theorem kind_calls (x : AS h0 h ab kb now av A lv []) (kr0 : KR h0 kb sb mb c m) (hs : Sorted m S) (hk : KindS S) : CallsH Tryz.prog 61 [ptr ab] h (CmdR h0 h ab kb now av A lv (cKind S now A)) := by
  refine f61_calls (by simp) ?_
  intro b2 h1 g1
  have w := x.st.new g1
  refine x.many w 1 rfl (fun hok _ => ?_) (fun hb => x.bad w (arg1_bad hb))
  obtain ⟨key, rfl⟩ := one_arg hok
  obtain ⟨b, o, cc, rfl⟩ := x.argF (by simp)
  have hkk := kindS_get (key := key) (now := now) hk
  refine w.lda 1 rfl rfl ?_
  refine w.lda 1 rfl rfl ?_
  refine x.ix (x.base w) 0 rfl rfl ?_
  refine w.lda 1 rfl rfl ?_
  refine get_two w (x.getc kr0 hs w key) [(0, ptr ab), (2, ptr b2)] rfl rfl rfl ⟨rfl, rfl, trivial⟩ rfl (mono_at mono_retQ) fun h2 b3 pv lw rv w => ?_
  rw [show cKind S now [key] = .ok (rep 1 0 (kindName ((getS S key now).getD zeroT).kind), []) from rfl]
  generalize (getS S key now).getD zeroT = t at hkk w ⊢
  refine w.ld1 0 rfl rfl ?_
  have six : ∀ {K : Value → Prop} {h : Heap}, K (.string (kindName t.kind)) → ∃ v, 0 ≤ t.kind ∧ t.kind < 6 ∧ ([Value.string ⟨#[110, 111, 110, 101]⟩, .string ⟨#[115, 116, 114, 105, 110, 103]⟩, .string ⟨#[104, 97, 115, 104]⟩, .string ⟨#[108, 105, 115, 116]⟩, .string ⟨#[115, 101, 116]⟩, .string ⟨#[122, 115, 101, 116]⟩])[t.kind.toNat * 1]? = some v ∧ K v := fun {K h} hK => by
    obtain ⟨k0, k5⟩ := hkk
    refine ⟨_, k0, by omega, ?_, hK⟩
    have : t.kind = 0 ∨ t.kind = 1 ∨ t.kind = 2 ∨ t.kind = 3 ∨ t.kind = 4 ∨ t.kind = 5 := by omega
    rcases this with e | e | e | e | e | e <;> rw [e] <;> rfl
  refine six (h := h) ?_
  refine w.st1 2 rfl rfl rfl rfl fun h3 w => ?_
  exact x.fin w 2 3 rfl rfl rfl

theorem persist_calls (x : AS h0 h ab kb now av A lv []) (kr0 : KR h0 kb sb mb c m) (hs : Sorted m S) : CallsH Tryz.prog 72 [ptr ab] h (CmdR h0 h ab kb now av A lv (cPersist S now A)) := by
  refine f72_calls (by simp) ?_
  intro b2 h1 g1
  have w := x.st.new g1
  refine x.many w 1 rfl (fun hok _ => ?_) (fun hb => x.bad w (arg1_bad hb))
  obtain ⟨key, rfl⟩ := one_arg hok
  obtain ⟨b, o, cc, rfl⟩ := x.argF (by simp)
  refine w.lda 1 rfl rfl ?_
  refine w.lda 1 rfl rfl ?_
  refine x.ix (x.base w) 0 rfl rfl ?_
  refine w.lda 1 rfl rfl ?_
  refine get_two w (x.getc kr0 hs w key) [(0, ptr ab), (2, ptr b2)] rfl rfl rfl ⟨rfl, rfl, trivial⟩ rfl (mono_at mono_retQ) fun h2 b3 pv lw rv w => ?_
  rw [show cPersist S now [key] = gPersist key (getS S key now) from rfl]
  generalize getS S key now = go at w ⊢
  cases go with
  | none =>
    refine w.callv Bnumber_calls fun h3 w => ?_
    refine w.st1 2 rfl rfl rfl rfl fun h4 w => ?_
    exact x.fin w 2 3 rfl rfl rfl
  | some t =>
    refine w.ld1 0 rfl rfl ?_
    obtain ⟨kd, tx, ps, ls, rs, hu, un⟩ := t
    cases hu with
    | false =>
      refine w.callv Bnumber_calls fun h3 w => ?_
      refine w.st1 2 rfl rfl rfl rfl fun h4 w => ?_
      exact x.fin w 2 3 rfl rfl rfl
    | true =>
      refine w.lda 3 rfl rfl ?_
      refine x.ix (x.base w) 0 rfl rfl ?_
      intro b5 h3 g3
      have w := w.new g3
      refine x.add w 4 rfl (one_sl (e := keepsE key) (w.get 0 rfl)) (by simp) fun _ h4 lv2 w => ?_
      refine w.callv Bnumber_calls fun h5 w => ?_
      refine w.st1 3 rfl rfl rfl rfl fun h6 w => ?_
      exact x.fin w 3 4 rfl rfl rfl

theorem minus_go {k n : Int} {h : Heap} {K : Value → Heap → Prop} {Qp : List PanicEntry → Heap → Prop} (ha : In64 k) (hb : In64 n) (hok : okLeft k n → K (.int .i64 (k - n)) h) (hbad : ¬ okLeft k n → Qp (stopE wOver) h) :
    CallsH Tryz.prog 114 [.int .i64 k, .int .i64 n] h (after K Qp) := by
  obtain ⟨a0, a1⟩ := ha
  obtain ⟨b0, b1⟩ := hb
  have key : CallsH Tryz.prog 114 [.int .i64 k, .int .i64 n] h (Out (fun r h' => okLeft k n ∧ r = .int .i64 (k - n) ∧ h' = h) (fun why h' => ¬ okLeft k n ∧ why = wOver ∧ h' = h)) := by
    unfold okLeft
    have good : okLeft k n → swp Tryz.prog (.seq (.ops f114r2) .ret) (retQ [.t 4] (Out (fun r h' => (-9223372036854775808 ≤ k - n ∧ k - n ≤ 9223372036854775807) ∧ r = .int .i64 (k - n) ∧ h' = h) (fun why h' => ¬ (-9223372036854775808 ≤ k - n ∧ k - n ≤ 9223372036854775807) ∧ why = wOver ∧ h' = h))) (mk [(0, .int .i64 k), (1, .int .i64 n)]) [] h := by
      intro hk
      obtain ⟨k0, k1⟩ := id hk
      refine And.intro rfl (fun z hz => ?_)
      have hz : z = k - n := hz.trans (wrap_in (by omega) (by omega))
      subst hz
      exact ⟨hk, rfl, rfl⟩
    refine f114_calls (by simp) ?_
    refine And.intro rfl (And.intro (fun h1 => ?_) (fun h1 => ?_))
    · refine And.intro rfl (fun z hz => ?_)
      have hz : z = -9223372036854775808 + n := hz.trans (wrap_in (by omega) (by omega))
      subst hz
      refine And.intro rfl (And.intro (fun h2 => ?_) (fun h2 => ?_))
      · exact must_yes fun _ => cut_at [(0, .int .i64 k), (1, .int .i64 n)] ⟨rfl, rfl, trivial⟩ (good ⟨by omega, by omega⟩)
      · refine And.intro rfl (And.intro (fun h3 => absurd h3 (by omega)) (fun h3 => ?_))
        exact must_no ⟨_, rfl, fun hk => by have := hk.1; omega, rfl, rfl⟩
    · refine And.intro rfl (And.intro (fun h3 => ?_) (fun h3 => absurd (show n < 0 by omega) h3))
      refine And.intro rfl (fun z hz => ?_)
      have hz : z = 9223372036854775807 + n := hz.trans (wrap_in (by omega) (by omega))
      subst hz
      refine And.intro rfl (And.intro (fun h2 => ?_) (fun h2 => ?_))
      · exact must_yes fun _ => cut_at [(0, .int .i64 k), (1, .int .i64 n)] ⟨rfl, rfl, trivial⟩ (good ⟨by omega, by omega⟩)
      · exact must_no ⟨_, rfl, fun hk => by have := hk.2; omega, rfl, rfl⟩
  exact call_out key (fun v h' hr => by obtain ⟨h2, rfl, e⟩ := hr; have e := e.symm; subst e; exact hok h2) (fun v h' hr => by obtain ⟨h2, rfl, e⟩ := hr; have e := e.symm; subst e; exact hbad h2)
theorem plus_goq {k n : Int} {h : Heap} {K : Value → Heap → Prop} {Qp : List PanicEntry → Heap → Prop} (ha : In64 k) (hb : In64 n) (hok : okSum k n → K (.int .i64 (k + n)) h) (hbad : ¬ okSum k n → Qp (stopE wOver) h) :
    CallsH Tryz.prog 102 [.int .i64 k, .int .i64 n] h (fun e h' => Ext h h' ∧ after K Qp e h') :=
  (plus_calls ha hb).mono fun e h' hr => by
    cases e with
    | returned v => obtain ⟨h2, rfl, e⟩ := hr; have e := e.symm; subst e; exact ⟨fun _ _ => rfl, hok h2⟩
    | panicked ch => obtain ⟨why, rfl, h2, rfl, e⟩ := hr; have e := e.symm; subst e; exact ⟨fun _ _ => rfl, hbad h2⟩
    | outgrown => exact hr.elim

def UntS (S : Space) : Prop := ∀ p ∈ S, In64 p.2.unt
theorem untS_get (hu : UntS S) (hg : getS S key now = some t) : In64 t.unt := by
  have : findS S key = some t := by
    unfold getS at hg
    split at hg
    · rename_i u hu
      split at hg
      · cases hg
      · rw [hu]; exact hg
    · cases hg
  exact hu _ (findS_mem this)

theorem left_calls (x : AS h0 h ab kb now av A lv []) (kr0 : KR h0 kb sb mb c m) (hs : Sorted m S) (hn : In64 now) (hu : ∀ k ∈ A, ∀ t, getS S k now = some t → In64 t.unt) : CallsH Tryz.prog 73 [ptr ab] h (CmdR h0 h ab kb now av A lv (cLeft S now A)) := by
  refine f73_calls (by simp) ?_
  intro b2 h1 g1
  have w := x.st.new g1
  refine x.many w 1 rfl (fun hok _ => ?_) (fun hb => x.bad w (arg1_bad hb))
  obtain ⟨key, rfl⟩ := one_arg hok
  obtain ⟨b, o, cc, rfl⟩ := x.argF (by simp)
  refine w.lda 1 rfl rfl ?_
  refine w.lda 1 rfl rfl ?_
  refine x.ix (x.base w) 0 rfl rfl ?_
  refine w.lda 1 rfl rfl ?_
  refine get_two w (x.getc kr0 hs w key) [(0, ptr ab), (2, ptr b2)] rfl rfl rfl ⟨rfl, rfl, trivial⟩ rfl (mono_at mono_retQ) fun h2 b3 pv lw rv w => ?_
  rw [show cLeft S now [key] = gLeft now (getS S key now) from rfl]
  have hun : ∀ t, getS S key now = some t → In64 t.unt := fun t ht => hu key (by simp) t ht
  generalize getS S key now = go at w hun ⊢
  cases go with
  | none =>
    refine w.callv Bnumber_calls fun h3 w => ?_
    refine w.st1 2 rfl rfl rfl rfl fun h4 w => ?_
    exact x.fin w 2 3 rfl rfl rfl
  | some t =>
    have hun := hun t rfl
    refine w.ld1 0 rfl rfl ?_
    obtain ⟨kd, tx, ps, ls, rs, hu, un⟩ := t
    cases hu with
    | false =>
      refine w.callv Bnumber_calls fun h3 w => ?_
      refine w.st1 2 rfl rfl rfl rfl fun h4 w => ?_
      exact x.fin w 2 3 rfl rfl rfl
    | true =>
      refine w.ld1 0 rfl rfl ?_
      refine w.lda 3 rfl rfl ?_
      refine minus_go hun hn (fun hok => ?_) (fun hb => x.bad w (if_neg hb))
      refine w.callv Bnumber_calls fun h3 w => ?_
      refine w.st1 2 rfl rfl rfl rfl fun h4 w => ?_
      exact x.fin w 2 3 rfl rfl (if_pos hok)

theorem expire_calls (x : AS h0 h ab kb now av A lv []) (kr0 : KR h0 kb sb mb c m) (hs : Sorted m S) (hl : LaidN h0) (hn : In64 now) (hA : ∀ s ∈ A, s.size < 281474976710656) : CallsH Tryz.prog 71 [ptr ab] h (CmdR h0 h ab kb now av A lv (cExpire S now A)) := by
  refine f71_calls (by simp) ?_
  intro b2 h1 g1
  have w := x.st.new g1
  refine x.many w 1 rfl (fun hok _ => ?_) (fun hb => x.bad w (arg2_bad hb))
  obtain ⟨key, s, rfl⟩ := two_arg hok
  obtain ⟨b, o, cc, rfl⟩ := x.argF (by simp)
  rw [show cExpire S now [key, s] = gExpire S now key (numOf s) from rfl]
  refine x.num (j := 1) hl (by simp) (hA _ (by simp)) w 1 rfl (fun h2 n hnum w => ?_) (fun h2 hnum w => x.bad w (by rw [show numOf s = none from hnum]; rfl))
  have hnum : numOf s = some n := hnum
  rw [hnum]
  have hn2 := numOf_in hnum
  refine cut_at [(0, ptr ab), (2, ptr b2), (3, .int .i64 n)] ⟨rfl, rfl, rfl, trivial⟩ ?_
  refine ass_go ?_
  refine w.lda 1 rfl rfl ?_
  refine w.lda 1 rfl rfl ?_
  refine x.ix (x.base w) 0 rfl rfl ?_
  refine w.lda 1 rfl rfl ?_
  refine get_two w (x.getc kr0 hs w key) [(0, ptr ab), (2, ptr b2), (3, .int .i64 n)] rfl rfl rfl ⟨rfl, rfl, rfl, trivial⟩ rfl (mono_at mono_retQ) fun h3 b3 pv lw rv w => ?_
  have hh : here S now key = (getS S key now).isSome := rfl
  show swp _ _ _ _ _ _
  unfold gExpire
  simp only [hh]
  generalize getS S key now = go at w ⊢
  cases go with
  | none =>
    refine w.callv Bnumber_calls fun h4 w => ?_
    refine w.st1 2 rfl rfl rfl rfl fun h5 w => ?_
    exact x.fin w 2 3 rfl rfl rfl
  | some t =>
    refine And.intro rfl (And.intro (fun h1 => ?_) (fun h1 => ?_))
    · refine w.lda 3 rfl rfl ?_
      refine x.ix (x.base w) 0 rfl rfl ?_
      intro b5 h4 g4
      have w := w.new g4
      refine x.add w 4 rfl (one_sl (e := goneE key) (w.get 0 rfl)) (by simp) fun _ h5 lv2 w => ?_
      refine w.callv Bnumber_calls fun h6 w => ?_
      refine w.st1 3 rfl rfl rfl rfl fun h7 w => ?_
      exact x.fin w 3 4 rfl rfl (by rw [if_pos (show (some t).isSome = true from rfl), if_pos h1]; rfl)
    · refine w.lda 3 rfl rfl ?_
      refine x.ix (x.base w) 0 rfl rfl ?_
      refine w.lda 3 rfl rfl ?_
      refine plus_goq hn hn2 (fun hok => ?_) (fun hb => x.bad w (by rw [if_pos (show (some t).isSome = true from rfl), if_neg h1, if_neg hb]))
      intro b5 h4 g4
      have w := w.new g4
      refine x.add w 4 rfl (one_sl (e := untilE key (now + n)) (w.get 0 rfl)) (by simp) fun _ h5 lv2 w => ?_
      refine w.callv Bnumber_calls fun h6 w => ?_
      refine w.st1 3 rfl rfl rfl rfl fun h7 w => ?_
      exact x.fin w 3 4 rfl rfl (by rw [if_pos (show (some t).isSome = true from rfl), if_neg h1, if_pos hok]; rfl)
end

end Go.Proofs.YtgmkldaonkbjgaaGreatDoor
namespace Go.Proofs.YtgmkldaonkbjgaaGreatDoor
open Go Go.Sx Go.Proofs.YtgmkldaonkbjgaaGreatDoor.C

theorem tin8 {t : Thing} (hk : kOK t = true) (s : Small t) : TIn t := by
  have few : countT t ≤ 65536 := (small_short s).2.2.2
  unfold kOK at hk
  split at hk
  · cases hk
  split at hk
  · rename_i h1
    have hk := of_decide_eq_true hk
    have p : t.pairs = [] := List.length_eq_zero_iff.1 (by omega)
    have l : t.list = [] := List.length_eq_zero_iff.1 (by omega)
    have r : t.ranks = [] := List.length_eq_zero_iff.1 (by omega)
    exact ⟨⟨by rw [p]; exact .nil, fun _ => by rw [l]; exact .nil, by rw [r]; exact .nil, by rw [r]; exact List.nodup_nil, fun h => by omega, few⟩, fun h => by omega⟩
  split at hk
  · rename_i h1
    simp only [Bool.and_eq_true, decide_eq_true_eq] at hk
    obtain ⟨h2, h3, h4, h5⟩ := hk
    have r : t.ranks = [] := List.length_eq_zero_iff.1 (by omega)
    exact ⟨⟨rising_lt (lt := fun x y : Pair => sless x.name y.name) (fun a b c => sless_trans) h5, fun h => by omega, by rw [r]; exact .nil, by rw [r]; exact List.nodup_nil, fun h => by omega, few⟩, fun h => by omega⟩
  split at hk
  · rename_i h1
    simp only [Bool.and_eq_true, decide_eq_true_eq] at hk
    obtain ⟨h2, h3, h4⟩ := hk
    have p : t.pairs = [] := List.length_eq_zero_iff.1 (by omega)
    have r : t.ranks = [] := List.length_eq_zero_iff.1 (by omega)
    exact ⟨⟨by rw [p]; exact .nil, fun h => by omega, by rw [r]; exact .nil, by rw [r]; exact List.nodup_nil, fun _ => ⟨p, r⟩, few⟩, fun _ => List.length_pos_iff.1 h2⟩
  split at hk
  · rename_i h1
    simp only [Bool.and_eq_true, decide_eq_true_eq] at hk
    obtain ⟨h2, h3, h4, h5⟩ := hk
    have p : t.pairs = [] := List.length_eq_zero_iff.1 (by omega)
    have r : t.ranks = [] := List.length_eq_zero_iff.1 (by omega)
    exact ⟨⟨by rw [p]; exact .nil, fun _ => rising_lt (lt := sless) (fun a b c => sless_trans) h5, by rw [r]; exact .nil, by rw [r]; exact List.nodup_nil, fun h => by omega, few⟩, fun h => by omega⟩
  split at hk
  · rename_i h1
    simp only [Bool.and_eq_true, decide_eq_true_eq] at hk
    obtain ⟨h2, h3, h4, h5, h6⟩ := hk
    have p : t.pairs = [] := List.length_eq_zero_iff.1 (by omega)
    exact ⟨⟨by rw [p]; exact .nil, fun h => by omega, rising_lt ahead_tr h5, of_decide_eq_true h6, fun h => by omega, few⟩, fun h => by omega⟩
  · cases hk

theorem named8 {t : Thing} (s : Small t) : Named t := ⟨fun x hx => by have := s.ps x hx; omega, fun x hx => by have := s.ls x hx; omega, fun x hx => by have := s.rs x hx; omega⟩

theorem rg8 {l k : List RX} (nv : NVast l) (hk : ofX [] l = some k) : RG k := by
  obtain ⟨h1, h2, h3⟩ := ofX_ok List.Pairwise.nil hk
  have hn := (ofX_nodup List.Pairwise.nil hk).2
  have hm : ∀ x ∈ k, x ∈ l := fun x hx => by simpa using (h2 x).1 hx
  have hl := nv.len
  have hlk : k.length = l.length := by simpa using h3
  exact ⟨h1, by omega, fun x hx => nv.fit x (hm x hx), fun x hx => tin8 (hn x (hm x hx)) (nv.small x (hm x hx)), fun x hx => named8 (nv.small x (hm x hx))⟩


theorem kind8 {t : Thing} (hk : kOK t = true) : 1 ≤ t.kind ∧ t.kind ≤ 5 := by
  unfold kOK at hk
  split at hk
  · cases hk
  split at hk
  · omega
  split at hk
  · omega
  split at hk
  · omega
  split at hk
  · omega
  split at hk
  · omega
  · cases hk

structure S8 (S : Space) : Prop where
  few : Few S
  kind : KindS S
  text : TextS S
  unt : UntS S

theorem s8_of {l k : List RX} (nv : NVast l) (hk : ofX [] l = some k) (hu : ∀ x ∈ l, In64 x.thing.unt) : S8 (k.map RX.pr) := by
  obtain ⟨h1, h2, h3⟩ := ofX_ok List.Pairwise.nil hk
  have hn := (ofX_nodup List.Pairwise.nil hk).2
  have hm : ∀ x ∈ k, x ∈ l := fun x hx => by simpa using (h2 x).1 hx
  have hl := nv.len
  have hlk : k.length = l.length := by simpa using h3
  have rg := rg8 nv hk
  have of : ∀ p ∈ k.map RX.pr, ∃ x ∈ l, RX.pr x = p := fun p hp => by
    obtain ⟨x, hx, rfl⟩ := List.mem_map.1 hp
    exact ⟨x, hm x hx, rfl⟩
  refine ⟨⟨pr_up h1, fun p hp => ?_, by simp; omega, rg.ins⟩, fun p hp => ?_, fun p hp => ?_, fun p hp => ?_⟩
  · obtain ⟨x, hx, rfl⟩ := of p hp
    have := nv.keys x hx
    show x.key.size ≤ 1048576
    omega
  · obtain ⟨x, hx, rfl⟩ := of p hp
    exact kind8 (hn x hx)
  · obtain ⟨x, hx, rfl⟩ := of p hp
    have := (nv.small x hx).text
    show x.thing.text.size < 281474976710656
    omega
  · obtain ⟨x, hx, rfl⟩ := of p hp
    exact hu x hx

end Go.Proofs.YtgmkldaonkbjgaaGreatDoor
namespace Go.Proofs.YtgmkldaonkbjgaaGreatDoor
open Go Go.Sx Go.Proofs.YtgmkldaonkbjgaaGreatDoor.C

section
variable {h0 h : Heap} {ab kb sb mb c : Nat} {now n : Int} {av lv : Value} {A : List ByteArray} {m : List KI} {S : Space}

theorem size_calls (x : AS h0 h ab kb now av A lv []) (kr0 : KR h0 kb sb mb c m) (hs : Sorted m S) : CallsH Tryz.prog 75 [ptr ab] h (CmdR h0 h ab kb now av A lv (cSize S now A)) := by
  refine f75_calls (by simp) ?_
  intro b2 h1 g1
  have w := x.st.new g1
  refine x.many w 1 rfl (fun hok _ => ?_) (fun hb => x.bad w (arg0_bad hb))
  obtain rfl := no_arg hok
  refine w.lda 1 rfl rfl ?_
  refine w.lda 1 rfl rfl ?_
  refine w.callv (Size_calls now (kr0.ext (x.base w)) hs) fun h3 w => ?_
  refine w.callv Bnumber_calls fun h4 w => ?_
  refine w.st1 0 rfl rfl rfl rfl fun h5 w => ?_
  exact x.fin w 0 1 rfl rfl rfl

theorem take_count {α : Type} (p : α → Bool) (l : List α) (q : Nat) (hq : q < l.length) : (l.take (q + 1)).countP p = (l.take q).countP p + (if p l[q] = true then 1 else 0) := by
  rw [List.take_succ_eq_append_getElem hq, List.countP_append, List.countP_singleton]

theorem exists_calls (x : AS h0 h ab kb now av A lv []) (kr0 : KR h0 kb sb mb c m) (hs : Sorted m S) : CallsH Tryz.prog 60 [ptr ab] h (CmdR h0 h ab kb now av A lv (cExists S now A)) := by
  refine f60_calls (by simp) ?_
  intro b2 h1 g1
  have w := x.st.new g1
  refine x.many w 1 rfl (fun hok _ => ?_) (fun hb => x.bad w (inMost_no hb))
  obtain ⟨b, o, cc, rfl⟩ := x.argF (by omega)
  rw [show cExists S now A = .ok (numR (A.countP (here S now)), []) from inMost_yes hok]
  refine w.lda 1 rfl rfl ?_
  refine loop_intro (fun q : Nat => [(0, ptr ab), (2, ptr b2), (3, .int .i64 ((A.take q).countP (here S now))), (13, .slice (some ⟨b, o, none⟩) A.length cc), (14, .int .i64 A.length), (15, .int .i64 q)])
    (fun q h' => q ≤ A.length ∧ St (ab :: vblk lv) h h' [.b b2 [.int .i64 0, .int .i64 0, .string ⟨#[]⟩, .slice none 0 0], asE ab kb now (.slice (some ⟨b, o, none⟩) A.length cc) lv []]) (fun q => A.length - q) 0 ⟨rfl, rfl, rfl, rfl, rfl, rfl, trivial⟩ ⟨Nat.zero_le _, w⟩ ?_
  rintro q h2 ⟨hq, w⟩
  refine And.intro rfl (And.intro (fun hlt => ?_) (fun hge => ?_))
  · have hlt : q < A.length := by omega
    have hcn := take_count (here S now) A q hlt
    have hle : (A.take q).countP (here S now) ≤ q := Nat.le_trans List.countP_le_length (by simp; omega)
    refine x.ix (x.base w) q rfl (List.getElem?_eq_getElem hlt) ?_
    refine w.lda 1 rfl rfl ?_
    refine w.lda 1 rfl rfl ?_
    refine get_two w (x.getc kr0 hs w A[q]) [(0, ptr ab), (2, ptr b2), (3, .int .i64 ((A.take q).countP (here S now))), (13, .slice (some ⟨b, o, none⟩) A.length cc), (14, .int .i64 A.length), (15, .int .i64 q)] rfl rfl rfl ⟨rfl, rfl, rfl, rfl, rfl, rfl, trivial⟩ rfl
      (mono_at (mono_blockQ (mono_seq (mono_round (mono_blockQ (mono_seq mono_retQ)))))) fun h3 b3 pv lw rv w => ?_
    rw [show here S now A[q] = (getS S A[q] now).isSome from rfl] at hcn
    generalize (getS S A[q] now).isSome = bo at hcn ⊢
    generalize getS S A[q] now = go at w
    have w' := w.pick [2, 3] (by decide)
    cases bo with
    | false =>
      refine And.intro rfl (fun z hz => ?_)
      have hz := add_in hz (by omega) (by omega)
      subst hz
      refine And.intro rfl (Exists.intro (q + 1) (And.intro ⟨rfl, rfl, ?_, rfl, rfl, rfl, trivial⟩ (And.intro ⟨by omega, w'⟩ (by omega))))
      rw [hcn]; rfl
    | true =>
      refine And.intro rfl (fun y hy => ?_)
      have hy := add_in hy (by omega) (by omega)
      subst hy
      refine And.intro rfl (fun z hz => ?_)
      have hz := add_in hz (by omega) (by omega)
      subst hz
      refine And.intro rfl (Exists.intro (q + 1) (And.intro ⟨rfl, rfl, ?_, rfl, rfl, rfl, trivial⟩ (And.intro ⟨by omega, w'⟩ (by omega))))
      rw [hcn]; rfl
  · have hkl : q = A.length := by omega
    subst hkl
    rw [List.take_length]
    refine w.callv Bnumber_calls fun h4 w => ?_
    refine w.st1 0 rfl rfl rfl rfl fun h5 w => ?_
    exact x.fin w 0 1 rfl rfl rfl
end

structure CM (es : List MapEntry) (pre : List ByteArray) : Prop where
  fits : ∀ e ∈ es, fits .str e.key = true
  cnt : ∀ k, (mfind (.string k) es 0 = none ∧ k ∉ pre) ∨ (∃ i, mfind (.string k) es 0 = some (i, .int .i64 (cntB k pre)) ∧ k ∈ pre)

theorem CM.nil : CM [] [] := ⟨by simp, fun k => .inl ⟨rfl, by simp⟩⟩
theorem key_same {e : MapEntry} {k : ByteArray} (hf : fits .str e.key = true) : Instr.sameBits 10000 (.string k) e.key = true ↔ e.key = .string k := by
  constructor
  · intro hs; exact (sameBits_eq (k := .str) (by rfl) hf hs).symm
  · intro e; rw [e]; exact sameBits_refl (k := .str) rfl
theorem mfind_app {k k' : ByteArray} {v : Value} {c : Nat} : ∀ {es : List MapEntry} {i : Nat}, (∀ e ∈ es, fits .str e.key = true) → mfind (.string k) es i = none →
    mfind (.string k') (es ++ [{ key := .string k, val := v, born := c }]) i = (if k' = k then some (i + es.length, v) else mfind (.string k') es i)
  | [], i, _, _ => by
    simp only [List.nil_append, mfind]
    by_cases h : k' = k
    · rw [if_pos h, if_pos (by rw [h]; exact sameBits_refl (k := .str) rfl)]; rfl
    · rw [if_neg h, if_neg]
      intro hs
      have := sameBits_eq (k := .str) (by rfl) (by rfl) hs
      simp at this
      exact h this
  | e :: es, i, hf, hn => by
    have hfe := hf e (by simp)
    simp only [mfind] at hn
    split at hn
    · cases hn
    · rename_i hne
      have ih := mfind_app (k := k) (k' := k') (v := v) (c := c) (es := es) (i := i + 1) (fun e he => hf e (by simp [he])) hn
      simp only [List.cons_append, mfind]
      rw [ih]
      by_cases h : k' = k
      · rw [if_pos h, if_pos h, h, if_neg hne]
        simp only [List.length_cons]
        congr 2; omega
      · rw [if_neg h, if_neg h]
theorem mfind_mod {k k' : ByteArray} {v u : Value} : ∀ {es : List MapEntry} {i j : Nat}, (∀ e ∈ es, fits .str e.key = true) → mfind (.string k) es i = some (i + j, u) →
    (k' = k → mfind (.string k') (es.modify j fun e => { e with val := v }) i = some (i + j, v)) ∧ (k' ≠ k → mfind (.string k') (es.modify j fun e => { e with val := v }) i = mfind (.string k') es i)
  | [], i, j, _, h => by simp [mfind] at h
  | e :: es, i, j, hf, h => by
    have hfe := hf e (by simp)
    simp only [mfind] at h
    split at h
    · rename_i hs
      simp at h
      have hj : j = 0 := by omega
      subst hj
      have hk := (key_same hfe).1 hs
      simp only [List.modify_zero_cons, mfind]
      refine ⟨fun e1 => ?_, fun hne => ?_⟩
      · rw [e1, if_pos hs]; rfl
      · have : ¬ (Instr.sameBits 10000 (.string k') e.key = true) := fun h2 => by
          have := (key_same hfe).1 h2
          rw [hk] at this
          simp at this
          exact hne this.symm
        rw [if_neg this, if_neg this]
    · rename_i hs
      cases j with
      | zero =>
        exfalso
        have : ∀ {es : List MapEntry} {i p : Nat} {u : Value}, mfind (.string k) es i = some (p, u) → i ≤ p := by
          intro es
          induction es with
          | nil => intro i p u h; simp [mfind] at h
          | cons e es ih =>
            intro i p u h
            simp only [mfind] at h
            split at h
            · simp at h; omega
            · have := ih h; omega
        have := this h
        omega
      | succ j =>
        have h : mfind (.string k) es (i + 1) = some (i + 1 + j, u) := by rw [h]; congr 2; omega
        obtain ⟨m1, m2⟩ := mfind_mod (k := k) (k' := k') (v := v) (fun e he => hf e (by simp [he])) h
        simp only [List.modify_succ_cons, mfind]
        refine ⟨fun e1 => ?_, fun hne => ?_⟩
        · rw [m1 e1, e1, if_neg hs]; congr 2; omega
        · rw [m2 hne]

theorem CM.put0 {es : List MapEntry} {pre : List ByteArray} (x : CM es pre) {k : ByteArray} {c : Nat} {n : Int} (h1 : mfind (.string k) es 0 = none) (h2 : k ∉ pre) (hn : n = 1) :
    CM (es ++ [{ key := .string k, val := .int .i64 n, born := c }]) (pre ++ [k]) := by
  have h0 : cntB k pre = 0 := cntB_zero h2
  refine ⟨fun e he => ?_, fun k' => ?_⟩
  · rcases List.mem_append.1 he with he | he
    · exact x.fits e he
    · rw [List.mem_singleton.1 he]; rfl
  · rw [mfind_app x.fits h1, cntB_snoc]
    by_cases hk : k' = k
    · rw [if_pos hk, if_pos hk]
      refine .inr ⟨0 + es.length, ?_, by simp [hk]⟩
      rw [hk, h0, hn]; rfl
    · rw [if_neg hk, if_neg hk]
      rcases x.cnt k' with ⟨h3, h4⟩ | ⟨j, h3, h4⟩
      · exact .inl ⟨h3, by simp [h4, hk]⟩
      · exact .inr ⟨j, by simpa using h3, by simp [h4]⟩
theorem CM.put1 {es : List MapEntry} {pre : List ByteArray} (x : CM es pre) {k : ByteArray} {i : Nat} {n : Int} (h1 : mfind (.string k) es 0 = some (i, .int .i64 (cntB k pre))) (hn : n = cntB k pre + 1) :
    CM (es.modify i fun e => { e with val := .int .i64 n }) (pre ++ [k]) := by
  have h1' : mfind (.string k) es 0 = some (0 + i, .int .i64 (cntB k pre)) := by rw [h1]; simp
  refine ⟨fun e he => ?_, fun k' => ?_⟩
  · obtain ⟨j, hj⟩ := List.getElem?_of_mem he
    rw [List.getElem?_modify] at hj
    obtain ⟨e0, he0, rfl⟩ := Option.map_eq_some_iff.1 hj
    have := x.fits e0 (List.mem_of_getElem? he0)
    split <;> exact this
  · obtain ⟨m1, m2⟩ := mfind_mod (k' := k') (v := .int .i64 n) x.fits h1'
    rw [cntB_snoc]
    by_cases hk : k' = k
    · rw [if_pos hk]
      refine .inr ⟨0 + i, ?_, by simp [hk]⟩
      rw [m1 hk, hk, hn]; rfl
    · rw [if_neg hk]
      rw [m2 hk]
      rcases x.cnt k' with ⟨h3, h4⟩ | ⟨j, h3, h4⟩
      · exact .inl ⟨h3, by simp [h4, hk]⟩
      · exact .inr ⟨j, by simpa using h3, by simp [h4]⟩
theorem CM.hit {es : List MapEntry} {pre : List ByteArray} {k : ByteArray} (x : CM es (pre ++ [k])) : ∃ i, mfind (.string k) es 0 = some (i, .int .i64 (cntB k pre + 1 : Nat)) := by
  rcases x.cnt k with ⟨_, h2⟩ | ⟨i, h1, _⟩
  · exact absurd (by simp) h2
  · rw [cntB_snoc, if_pos rfl] at h1
    exact ⟨i, h1⟩

end Go.Proofs.YtgmkldaonkbjgaaGreatDoor
namespace Go.Proofs.YtgmkldaonkbjgaaGreatDoor
open Go Go.Sx Go.Proofs.YtgmkldaonkbjgaaGreatDoor.C

def listV (a : Option Addr) (n c : Nat) : Value := .agg ⟨[.int .i64 5, .int .i64 0, .string noText, .slice a n c]⟩
theorem listV_ones (a : Option Addr) (n c : Nat) : ∀ u ∈ (listV a n c).cells.toList, u.oneCell' = true := by
  intro u hu
  have hu : u ∈ [Value.int .i64 5, .int .i64 0, .string noText, .slice a n c] := hu
  simp at hu
  rcases hu with rfl | rfl | rfl | rfl <;> rfl
theorem Blist_calls {h : Heap} {a : Option Addr} {n c : Nat} : CallsH Tryz.prog 112 [.slice a n c] h (Ret fun r h' => r = listV a n c ∧ Chg [] h h') := by
  refine f112_calls (by simp) ?_
  intro b h1 g1
  refine Exists.intro _ (And.intro g1.blk (And.intro (by decide) (And.intro rfl (And.intro (listV_ones a n c) ?_))))
  intro h2 p2
  have g2 := g1.put p2
  exact ⟨_, rfl, cells_blk g2.blk, rfl, g2.chg⟩

section
variable {h0 h h' : Heap} {ab kb sb mb c b2 : Nat} {now n : Int} {av lv v : Value} {A : List ByteArray} {m : List KI} {S : Space} {M : List En} {E : List Eff} {res : Except ByteArray (Rep × List Eff)} {ls : List (Int × Int × ByteArray)}

theorem AS.finl {a : Option Addr} {n c : Nat} {L0 : List Eff} (x : AS h0 h ab kb now av A lv L0) (w : St (ab :: vblk lv) h h' M) (i j l : Nat) (hi : M[i]? = some (.b b2 [.int .i64 5, .int .i64 0, .string noText, .slice a n c])) (hj : M[j]? = some (asE ab kb now av lv E))
    (hl : M[l]? = some (.o encQ 4 (.slice a n c) ls)) (hjl : l ≠ j) (he : res = .ok (⟨5, 0, noText, ls⟩, E)) : ∃ vs, vs.length = 4 ∧ Cells h' b2 0 vs ∧ CmdR h0 h ab kb now av A lv res (.returned (.agg ⟨vs⟩)) h' := by
  refine ⟨_, rfl, cells_blk (w.get i hi), x.ends w j hj ⟨a, n, c, rfl, (show OL encQ 4 h' (.slice a n c) ls from w.get l hl).sl, fun b hb => ?_⟩ he⟩
  rcases (w.ents l _ hl).2 b hb with h1 | h1
  · exact absurd h1 (w.apart l j _ _ hl hj hjl b hb)
  · exact h1

theorem _root_.Go.Sx.St.empty {T : List Nat} {α : Type} {enc : α → List Value} {size : Nat} (w : St T h0 h M) : St T h0 h (.o enc size (.slice none 0 0) ([] : List α) :: M) :=
  w.add (e := .o enc size (.slice none 0 0) ([] : List α)) (Chg.refl _) OL.nil (fun b hb => (nomatch (show b ∈ ([] : List Nat) from hb)))

def gMg : Option Thing → Int × Int × ByteArray
  | some t => if t.kind = 1 then (4, 0, t.text) else (0, 0, noText)
  | none => (0, 0, noText)
theorem mgetQ_eq (key : ByteArray) : mgetQ S now key = gMg (getS S key now) := by
  unfold mgetQ gMg
  cases getS S key now <;> rfl
theorem take_map {α β : Type} (f : α → β) (l : List α) (q : Nat) (hq : q < l.length) : (l.take (q + 1)).map f = (l.take q).map f ++ [f l[q]] := by
  rw [List.take_succ_eq_append_getElem hq, List.map_append]; rfl

theorem mget_calls (x : AS h0 h ab kb now av A lv []) (kr0 : KR h0 kb sb mb c m) (hs : Sorted m S) : CallsH Tryz.prog 69 [ptr ab] h (CmdR h0 h ab kb now av A lv (cMget S now A)) := by
  refine f69_calls (by simp) ?_
  intro b2 h1 g1
  have w := x.st.new g1
  refine x.many w 1 rfl (fun hok _ => ?_) (fun hb => x.bad w (inMost_no hb))
  obtain ⟨b, o, cc, rfl⟩ := x.argF (by omega)
  rw [show cMget S now A = .ok (⟨5, 0, noText, A.map (mgetQ S now)⟩, []) from inMost_yes hok]
  refine w.lda 1 rfl rfl ?_
  have w := w.empty (enc := encQ) (size := 4)
  refine loop_intro (fun q : Nat × Value => [(0, ptr ab), (2, ptr b2), (3, q.2), (13, .slice (some ⟨b, o, none⟩) A.length cc), (14, .int .i64 A.length), (15, .int .i64 q.1)])
    (fun q h' => q.1 ≤ A.length ∧ St (ab :: vblk lv) h h' [.o encQ 4 q.2 ((A.take q.1).map (mgetQ S now)), .b b2 [.int .i64 0, .int .i64 0, .string ⟨#[]⟩, .slice none 0 0], asE ab kb now (.slice (some ⟨b, o, none⟩) A.length cc) lv []])
    (fun q => A.length - q.1) (0, .slice none 0 0) ⟨rfl, rfl, rfl, rfl, rfl, rfl, trivial⟩ ⟨Nat.zero_le _, w⟩ ?_
  rintro ⟨q, v⟩ h2 ⟨hq, w⟩
  obtain ⟨a, c3, rfl, _⟩ := (show OL encQ 4 h2 v ((A.take q).map (mgetQ S now)) from w.get 0 rfl).sl.form
  have hq : q ≤ A.length := hq
  refine And.intro rfl (And.intro (fun hlt => ?_) (fun hge => ?_))
  · have hlt : q < A.length := by omega
    have hmp := take_map (mgetQ S now) A q hlt
    rw [mgetQ_eq (key := A[q])] at hmp
    have hln : ((A.take q).map (mgetQ S now)).length ≤ 65536 := by simp; omega
    refine x.ix (x.base w) q rfl (List.getElem?_eq_getElem hlt) ?_
    refine w.lda 2 rfl rfl ?_
    refine w.lda 2 rfl rfl ?_
    refine get_two w (x.getc kr0 hs w A[q]) [(0, ptr ab), (2, ptr b2), (3, .slice a ((A.take q).map (mgetQ S now)).length c3), (13, .slice (some ⟨b, o, none⟩) A.length cc), (14, .int .i64 A.length), (15, .int .i64 q)] rfl rfl rfl ⟨rfl, rfl, rfl, rfl, rfl, rfl, trivial⟩ rfl
      (mono_at (mono_blockQ (mono_seq (mono_round (mono_blockQ (mono_seq mono_retQ)))))) fun h3 b3 pv lw rv w => ?_
    generalize getS S A[q] now = go at w hmp
    have nil_ : ∀ {h4 : Heap} {b4 : Nat} {L : List En}, gMg go = (0, 0, noText) → St (ab :: vblk lv) h h4 (.b b4 [.int .i64 0, .int .i64 0, .string ⟨#[]⟩, .slice none 0 0] :: .b b3 (cellsT (go.getD zeroT) pv lw rv) :: thE (go.getD zeroT) pv lw rv :: .o encQ 4 (.slice a ((A.take q).map (mgetQ S now)).length c3) ((A.take q).map (mgetQ S now)) :: L) →
        SL encQ h4 (.slice (some ⟨b4, 0, none⟩) 1 1) [gMg go] := fun hg w => by
      rw [hg]; exact SL.one encQ_len (x := (0, 0, noText)) (w.get 0 rfl)
    cases go with
    | none =>
      intro b4 h4 g4
      have w := w.new g4
      refine w.app 3 rfl encQ_len encQ_one rfl (nil_ rfl w) (by simp only [List.length_singleton]; omega) fun v' h5 w => ?_
      rw [← hmp] at w
      have w := w.pick [3, 4, 5] (by decide)
      refine And.intro rfl (fun z hz => ?_)
      have hz := add_in hz (by omega) (by omega)
      subst hz
      exact And.intro rfl (Exists.intro (q + 1, v') (And.intro ⟨rfl, rfl, rfl, rfl, rfl, rfl, trivial⟩ (And.intro ⟨hlt, w⟩ (by simp only; omega))))
    | some t =>
      refine w.ld1 0 rfl rfl ?_
      refine And.intro rfl (And.intro (fun h1 => ?_) (fun h1 => ?_))
      · have hgm : gMg (some t) = (4, 0, t.text) := if_pos h1
        refine w.ld1 0 rfl rfl ?_
        refine w.callv Btext_calls fun h4 w => ?_
        intro b4 h5 g5
        have w := w.new g5
        refine w.app 3 rfl encQ_len encQ_one rfl (by rw [hgm] at hmp; exact SL.one encQ_len (x := (4, 0, t.text)) (w.get 0 rfl)) (by simp only [List.length_singleton]; omega) fun v' h6 w => ?_
        rw [← hgm, ← hmp] at w
        have w := w.pick [3, 4, 5] (by decide)
        refine And.intro rfl (fun z hz => ?_)
        have hz := add_in hz (by omega) (by omega)
        subst hz
        exact And.intro rfl (Exists.intro (q + 1, v') (And.intro ⟨rfl, rfl, rfl, rfl, rfl, rfl, trivial⟩ (And.intro ⟨hlt, w⟩ (by simp only; omega))))
      · intro b4 h4 g4
        have w := w.new g4
        refine w.app 3 rfl encQ_len encQ_one rfl (nil_ (if_neg h1) w) (by simp only [List.length_singleton]; omega) fun v' h5 w => ?_
        rw [← hmp] at w
        have w := w.pick [3, 4, 5] (by decide)
        refine And.intro rfl (fun z hz => ?_)
        have hz := add_in hz (by omega) (by omega)
        subst hz
        exact And.intro rfl (Exists.intro (q + 1, v') (And.intro ⟨rfl, rfl, rfl, rfl, rfl, rfl, trivial⟩ (And.intro ⟨hlt, w⟩ (by simp only; omega))))
  · have hkl : q = A.length := by omega
    subst hkl
    refine w.callv Blist_calls fun h4 w => ?_
    refine w.st1 1 rfl rfl rfl rfl fun h5 w => ?_
    exact x.finl w 1 2 0 rfl rfl rfl (by decide) (by rw [List.take_length])

theorem namesC_calls (x : AS h0 h ab kb now av A lv []) (kr0 : KR h0 kb sb mb c m) (hs : Sorted m S) (hn : S.length < 65537) : CallsH Tryz.prog 74 [ptr ab] h (CmdR h0 h ab kb now av A lv (cNames S now A)) := by
  refine f74_calls (by simp) ?_
  intro b2 h1 g1
  have w := x.st.new g1
  refine x.many w 1 rfl (fun hok _ => ?_) (fun hb => x.bad w (arg0_bad hb))
  obtain rfl := no_arg hok
  rw [show cNames S now [] = .ok (⟨5, 0, noText, (liveS now S).map fun s => (4, 0, s)⟩, []) from rfl]
  refine w.lda 1 rfl rfl ?_
  refine w.lda 1 rfl rfl ?_
  refine w.call (KNames_calls now (kr0.ext (x.base w)) hs) fun r h2 hr w => ?_
  have hll : (liveS now S).length ≤ 65536 := by
    have := liveS_len (now := now) (S := S); omega
  generalize hL : liveS now S = L at hr hll ⊢
  obtain ⟨a, cc, rfl, _⟩ := hr.form
  have u := (St.start h2).empty (enc := encQ) (size := 4)
  refine loop_intro (fun q : Nat × Value => [(0, ptr ab), (2, ptr b2), (3, q.2), (16, .slice a L.length cc), (17, .int .i64 L.length), (18, .int .i64 q.1)])
    (fun q h' => q.1 ≤ L.length ∧ St [] h2 h' [.o encQ 4 q.2 ((L.take q.1).map fun s => (4, 0, s))])
    (fun q => L.length - q.1) (0, .slice none 0 0) ⟨rfl, rfl, rfl, rfl, rfl, rfl, trivial⟩ ⟨Nat.zero_le _, u⟩ ?_
  rintro ⟨q, v⟩ h3 ⟨hq, u⟩
  obtain ⟨a3, c3, rfl, _⟩ := (show OL encQ 4 h3 v ((L.take q).map fun s => (4, 0, s)) from u.get 0 rfl).sl.form
  have hq : q ≤ L.length := hq
  refine And.intro rfl (And.intro (fun hlt => ?_) (fun hge => ?_))
  · have hlt : q < L.length := by omega
    have hmp := take_map (fun s : ByteArray => ((4 : Int), (0 : Int), s)) L q hlt
    have hln : ((L.take q).map fun s : ByteArray => ((4 : Int), (0 : Int), s)).length ≤ 65536 := by simp; omega
    obtain ⟨b, o, rfl⟩ := hr.addr (by omega)
    have hcs := (hr.ext u.chg).cells encS_len (List.getElem?_eq_getElem hlt)
    refine And.intro (by omega) (And.intro (by omega) (Exists.intro _ (And.intro (by simpa using hcs 0 _ rfl) ?_)))
    refine u.callv Btext_calls fun h4 u => ?_
    intro b4 h5 g5
    have u := u.new g5
    refine u.app 1 rfl encQ_len encQ_one rfl (SL.one encQ_len (x := (4, 0, L[q])) (u.get 0 rfl)) (by simp only [List.length_singleton]; omega) fun v' h6 u => ?_
    rw [← hmp] at u
    have u := u.pick [1] (by decide)
    refine And.intro rfl (fun z hz => ?_)
    have hz := add_in hz (by omega) (by omega)
    subst hz
    exact And.intro rfl (Exists.intro (q + 1, v') (And.intro ⟨rfl, rfl, rfl, rfl, rfl, rfl, trivial⟩ (And.intro ⟨hlt, u⟩ (by simp only; omega))))
  · have hkl : q = L.length := by omega
    subst hkl
    have w := w.add u.chg (u.get 0 rfl) (fun b hb => by
      rcases (u.ents 0 _ rfl).2 b hb with h1 | h1
      · cases h1
      · exact h1)
    refine w.callv Blist_calls fun h4 w => ?_
    refine w.st1 1 rfl rfl rfl rfl fun h5 w => ?_
    exact x.finl w 1 2 0 rfl rfl rfl (by decide) (by rw [List.take_length])
end

end Go.Proofs.YtgmkldaonkbjgaaGreatDoor
namespace Go.Proofs.YtgmkldaonkbjgaaGreatDoor
open Go Go.Sx Go.Proofs.YtgmkldaonkbjgaaGreatDoor.C

section
variable {h0 h : Heap} {ab kb sb mb c : Nat} {now n : Int} {av lv : Value} {A : List ByteArray} {m : List KI} {S : Space}

theorem delL_snoc {k : ByteArray} : ∀ {L pre : List ByteArray}, delL S now pre (L ++ [k]) = delL S now pre L ++ (if here S now k = true ∧ k ∉ pre ++ L then [goneE k] else [])
  | [], pre => by simp [delL]
  | x :: L, pre => by
    simp only [List.cons_append, delL]
    rw [delL_snoc (L := L) (pre := pre ++ [x])]
    simp [List.append_assoc]
theorem delL_take {q : Nat} (hq : q < A.length) : delL S now [] (A.take (q + 1)) = delL S now [] (A.take q) ++ (if here S now A[q] = true ∧ A[q] ∉ A.take q then [goneE A[q]] else []) := by
  rw [List.take_succ_eq_append_getElem hq, delL_snoc]; rfl
theorem delL_len : ∀ {L pre : List ByteArray}, (delL S now pre L).length ≤ L.length
  | [], pre => Nat.le_refl _
  | x :: L, pre => by
    have := delL_len (L := L) (pre := pre ++ [x])
    simp only [delL, List.length_append, List.length_cons]
    split <;> simp <;> omega

theorem del_calls (x : AS h0 h ab kb now av A lv []) (kr0 : KR h0 kb sb mb c m) (hs : Sorted m S) : CallsH Tryz.prog 59 [ptr ab] h (CmdR h0 h ab kb now av A lv (cDel S now A)) := by
  refine f59_calls (by simp) ?_
  intro b2 h1 g1
  have w := x.st.new g1
  refine x.many w 1 rfl (fun hok _ => ?_) (fun hb => x.bad w (inMost_no hb))
  obtain ⟨b, o, cc, rfl⟩ := x.argF (by omega)
  rw [show cDel S now A = .ok (numR (delL S now [] A).length, delL S now [] A) from inMost_yes hok]
  intro mb' h2 g2
  have w := w.newm g2
  refine w.lda 2 rfl rfl ?_
  refine loop_intro (fun q : Nat => [(0, ptr ab), (2, ptr b2), (3, .map (some mb')), (4, .int .i64 (delL S now [] (A.take q)).length), (15, .slice (some ⟨b, o, none⟩) A.length cc), (16, .int .i64 A.length), (17, .int .i64 q)])
    (fun q h' => q ≤ A.length ∧ ∃ es c' lv', CM es (A.take q) ∧ St (ab :: vblk lv) h h' [.m mb' es c', .b b2 [.int .i64 0, .int .i64 0, .string ⟨#[]⟩, .slice none 0 0], asE ab kb now (.slice (some ⟨b, o, none⟩) A.length cc) lv' (delL S now [] (A.take q))])
    (fun q => A.length - q) 0 ⟨rfl, rfl, rfl, rfl, rfl, rfl, rfl, trivial⟩ ⟨Nat.zero_le _, [], 0, lv, CM.nil, w⟩ ?_
  rintro q h3 ⟨hq, es, c', lv', cm, w⟩
  refine And.intro rfl (And.intro (fun hlt => ?_) (fun hge => ?_))
  · have hlt : q < A.length := by omega
    have hdt := delL_take (S := S) (now := now) hlt
    have hdl := delL_len (S := S) (now := now) (L := A.take q) (pre := [])
    have hdl : (delL S now [] (A.take q)).length ≤ q := Nat.le_trans hdl (by simp; omega)
    have htk : A.take (q + 1) = A.take q ++ [A[q]] := List.take_succ_eq_append_getElem hlt
    have hcl : cntB A[q] (A.take q) ≤ q := Nat.le_trans cntB_le (by simp; omega)
    refine x.ix (x.base w) q rfl (List.getElem?_eq_getElem hlt) ?_
    rcases cm.cnt A[q] with ⟨e1, hn⟩ | ⟨j, e1, hm⟩
    · have h0c : cntB A[q] (A.take q) = 0 := cntB_zero hn
      refine And.intro rfl (Exists.intro es (Exists.intro c' (And.intro (w.get 0 rfl) (And.intro cm.fits ?_))))
      rw [e1]
      refine And.intro rfl (fun z hz => ?_)
      have hz : z = 1 := by have := add_in hz (by omega) (by omega); omega
      subst hz
      refine And.intro rfl (Exists.intro es (Exists.intro c' (And.intro (w.get 0 rfl) (And.intro cm.fits ?_))))
      rw [e1]
      intro h4 p4
      have w := w.mput 0 rfl p4
      have cm := cm.put0 (c := c') e1 hn rfl
      obtain ⟨j2, e2⟩ := cm.hit
      rw [← htk] at cm
      refine And.intro rfl (Exists.intro _ (Exists.intro _ (And.intro (w.get 0 rfl) (And.intro cm.fits ?_))))
      rw [e2]
      refine And.intro rfl (And.intro (fun h9 => absurd h9 (by rw [h0c]; decide)) (fun _ => ?_))
      refine w.lda 2 rfl rfl ?_
      refine w.lda 2 rfl rfl ?_
      refine get_two w (x.getc kr0 hs w A[q]) [(0, ptr ab), (2, ptr b2), (3, .map (some mb')), (4, .int .i64 (delL S now [] (A.take q)).length), (6, .string A[q]), (15, .slice (some ⟨b, o, none⟩) A.length cc), (16, .int .i64 A.length), (17, .int .i64 q)] rfl rfl rfl
        ⟨rfl, rfl, rfl, rfl, rfl, rfl, rfl, rfl, trivial⟩ rfl (mono_at (mono_blockQ (mono_seq (mono_round (mono_blockQ (mono_seq mono_retQ)))))) fun h5 b3 pv lw rv w => ?_
      rw [show here S now A[q] = (getS S A[q] now).isSome from rfl] at hdt
      generalize getS S A[q] now = go at w hdt ⊢
      cases go with
      | none =>
        have w := w.pick [2, 3, 4] (by decide)
        rw [if_neg (by simp), List.append_nil] at hdt
        rw [← hdt] at w
        refine And.intro rfl (fun z hz => ?_)
        have hz := add_in hz (by omega) (by omega)
        subst hz
        refine And.intro rfl (Exists.intro (q + 1) (And.intro ⟨rfl, rfl, rfl, ?_, rfl, rfl, rfl, trivial⟩ (And.intro ⟨hlt, _, _, _, cm, w⟩ (by omega))))
        rw [hdt]; rfl
      | some t =>
        rw [if_pos ⟨rfl, hn⟩] at hdt
        refine And.intro rfl (fun y hy => ?_)
        have hy := add_in hy (by omega) (by omega)
        subst hy
        intro b5 h6 g6
        have w := w.new g6
        refine x.add w 5 rfl (one_sl (e := goneE A[q]) (w.get 0 rfl)) (by simp only [List.length_singleton]; omega) fun _ h7 lv2 w => ?_
        have w := w.pick [3, 4, 5] (by decide)
        rw [← hdt] at w
        refine And.intro rfl (fun z hz => ?_)
        have hz := add_in hz (by omega) (by omega)
        subst hz
        refine And.intro rfl (Exists.intro (q + 1) (And.intro ⟨rfl, rfl, rfl, ?_, rfl, rfl, rfl, trivial⟩ (And.intro ⟨hlt, _, _, _, cm, w⟩ (by omega))))
        rw [hdt, List.length_append]; rfl
    · have hpos : 0 < cntB A[q] (A.take q) := cntB_pos hm
      rw [if_neg (fun h => h.2 hm), List.append_nil] at hdt
      refine And.intro rfl (Exists.intro es (Exists.intro c' (And.intro (w.get 0 rfl) (And.intro cm.fits ?_))))
      rw [e1]
      refine And.intro rfl (fun z hz => ?_)
      have hz := add_in hz (by omega) (by omega)
      subst hz
      refine And.intro rfl (Exists.intro es (Exists.intro c' (And.intro (w.get 0 rfl) (And.intro cm.fits ?_))))
      rw [e1]
      intro h4 p4
      have w := w.mput 0 rfl p4
      have cm := cm.put1 e1 rfl
      obtain ⟨j2, e2⟩ := cm.hit
      rw [← htk] at cm
      refine And.intro rfl (Exists.intro _ (Exists.intro _ (And.intro (w.get 0 rfl) (And.intro cm.fits ?_))))
      rw [e2]
      refine And.intro rfl (And.intro (fun _ => ?_) (fun h9 => absurd h9 (by simp; omega)))
      rw [← hdt] at w
      refine And.intro rfl (fun z hz => ?_)
      have hz := add_in hz (by omega) (by omega)
      subst hz
      refine And.intro rfl (Exists.intro (q + 1) (And.intro ⟨rfl, rfl, rfl, ?_, rfl, rfl, rfl, trivial⟩ (And.intro ⟨hlt, _, _, _, cm, w⟩ (by omega))))
      rw [hdt]; rfl
  · have hkl : q = A.length := by omega
    subst hkl
    rw [List.take_length] at w ⊢
    refine w.callv Bnumber_calls fun h4 w => ?_
    refine w.st1 1 rfl rfl rfl rfl fun h5 w => ?_
    exact x.fin w 1 2 rfl rfl rfl

theorem msetL_two {k s : ByteArray} {r pre : List ByteArray} {E : List Eff} : msetL S now pre (k :: s :: r) E = (if s.size ≤ 1048576 ∧ k.size ≤ 1048576 then msetL S now (pre ++ [k]) r (E ++ ((if k ∈ pre then [] else dropsS S k now) ++ [textE k s])) else .error wLong) := rfl
theorem drop_pair {q : Nat} (h : q + 1 < A.length) : A.drop q = A[q] :: A[q + 1] :: A.drop (q + 2) := by
  rw [List.drop_eq_getElem_cons (by omega), List.drop_eq_getElem_cons h]

theorem mset_calls (x : AS h0 h ab kb now av A lv []) (kr0 : KR h0 kb sb mb c m) (hs : Sorted m S) (hA : ∀ s ∈ A, s.size < 281474976710656) : CallsH Tryz.prog 70 [ptr ab] h (CmdR h0 h ab kb now av A lv (cMset S now A)) := by
  refine f70_calls (by simp) ?_
  intro b2 h1 g1
  have w := x.st.new g1
  refine x.many w 1 rfl (fun hok _ => ?_) (fun hb => x.bad w (inMost_no hb))
  obtain ⟨b, o, cc, rfl⟩ := x.argF (by omega)
  rw [show cMset S now A = (if A.length % 2 = 0 then msetL S now [] A [] else .error wArgs) from inMost_yes hok]
  refine w.lda 1 rfl rfl ?_
  refine And.intro rfl (And.intro (by decide) (fun z hz => ?_))
  have hz : z = ((A.length % 2 : Nat) : Int) := by rw [hz]; exact (Int.ofNat_tmod A.length 2).symm
  subst hz
  refine And.intro rfl (And.intro (fun hev => must_yes fun _ => ?_) (fun hodd => must_no (x.bad w (if_neg (by omega)))))
  have hev : A.length % 2 = 0 := by omega
  rw [if_pos hev]
  intro mb' h2 g2
  have w := w.newm g2
  refine loop_intro (fun q : Nat => [(0, ptr ab), (2, ptr b2), (3, .map (some mb')), (4, .int .i64 (2 * q : Nat))])
    (fun q h' => 2 * q ≤ A.length ∧ ∃ es c' lv' pre E, CM es pre ∧ pre.length = q ∧ E.length ≤ 2 * q ∧ msetL S now [] A [] = msetL S now pre (A.drop (2 * q)) E ∧
      St (ab :: vblk lv) h h' [.m mb' es c', .b b2 [.int .i64 0, .int .i64 0, .string ⟨#[]⟩, .slice none 0 0], asE ab kb now (.slice (some ⟨b, o, none⟩) A.length cc) lv' E])
    (fun q => A.length - 2 * q) 0 ⟨rfl, rfl, rfl, rfl, trivial⟩ ⟨Nat.zero_le _, [], 0, lv, [], [], CM.nil, rfl, Nat.le_refl _, rfl, w⟩ ?_
  rintro q h3 ⟨hq, es, c', lv', pre, E, cm, hpl, hEl, heq, w⟩
  rw [heq]
  refine w.lda 2 rfl rfl ?_
  refine And.intro rfl (And.intro (fun hlt => ?_) (fun hge => ?_))
  · have hlt : 2 * q < A.length := by omega
    have hlt1 : 2 * q + 1 < A.length := by omega
    have hdr := drop_pair hlt1
    have hdt2 : A.drop (2 * (q + 1)) = A.drop (2 * q + 2) := rfl
    rw [hdr, msetL_two] at heq ⊢
    have hk9 := hA A[2 * q] (List.getElem_mem _)
    have hs9 := hA A[2 * q + 1] (List.getElem_mem _)
    generalize hk : A[2 * q] = k at heq hk9 ⊢
    generalize hsv : A[2 * q + 1] = s at heq hs9 ⊢
    have hcl : cntB k pre ≤ q := Nat.le_trans cntB_le (by omega)
    refine w.lda 2 rfl rfl ?_
    refine x.ix (x.base w) (2 * q) rfl (by rw [List.getElem?_eq_getElem hlt, hk]) ?_
    refine w.lda 2 rfl rfl ?_
    refine And.intro rfl (fun z hz => ?_)
    have hz := add_in hz (by omega) (by omega)
    subst hz
    refine x.ix (x.base w) (2 * q + 1) (by simp) (by rw [List.getElem?_eq_getElem hlt1, hsv]) ?_
    refine And.intro rfl (And.intro (fun h9 => ?_) (fun h9 => must_no (x.bad w (if_neg (fun hh => h9 (by omega))))))
    refine And.intro rfl (And.intro (fun h8 => ?_) (fun h8 => must_no (x.bad w (if_neg (fun hh => h8 (by omega))))))
    refine must_yes fun _ => ?_
    rw [if_pos ⟨by omega, by omega⟩] at heq ⊢
    rcases cm.cnt k with ⟨e1, hn⟩ | ⟨j, e1, hm⟩
    · have h0c : cntB k pre = 0 := cntB_zero hn
      rw [if_neg hn] at heq ⊢
      refine And.intro rfl (Exists.intro es (Exists.intro c' (And.intro (w.get 0 rfl) (And.intro cm.fits ?_))))
      rw [e1]
      refine And.intro rfl (fun z hz => ?_)
      have hz : z = 1 := by have := add_in hz (by omega) (by omega); omega
      subst hz
      refine And.intro rfl (Exists.intro es (Exists.intro c' (And.intro (w.get 0 rfl) (And.intro cm.fits ?_))))
      rw [e1]
      intro h4 p4
      have w := w.mput 0 rfl p4
      have cm := cm.put0 (c := c') e1 hn rfl
      obtain ⟨j2, e2⟩ := cm.hit
      refine And.intro rfl (Exists.intro _ (Exists.intro _ (And.intro (w.get 0 rfl) (And.intro cm.fits ?_))))
      rw [e2]
      refine And.intro rfl (And.intro (fun _ => ?_) (fun h7 => absurd (by rw [h0c]; rfl) h7))
      refine w.lda 2 rfl rfl ?_
      refine w.lda 2 rfl rfl ?_
      have dl := drops_len S k now
      refine call_ret (BDrops_calls k now (kr0.ext (x.base w)) hs) ?_
      rintro rd h5 ⟨od, hbd, c5⟩
      have w := w.ext c5
      refine x.add w 2 rfl od.sl (by omega) fun _ h6 lv2 w => ?_
      intro b5 h7 g7
      have w := w.new g7
      refine x.add w 3 rfl (one_sl (e := textE k s) (w.get 0 rfl)) (by simp only [List.length_singleton, List.length_append]; omega) fun _ h8 lv3 w => ?_
      have w := w.pick [1, 2, 3] (by decide)
      rw [List.append_assoc] at w
      refine And.intro rfl (fun z hz => ?_)
      have hz := add_in hz (by omega) (by omega)
      subst hz
      exact And.intro rfl (Exists.intro (q + 1) (And.intro ⟨rfl, rfl, rfl, rfl, trivial⟩ (And.intro ⟨by omega, _, _, _, _, _, cm, by simp [hpl], by simp only [List.length_append, List.length_singleton]; omega, rfl, w⟩ (by omega))))
    · have hpos : 0 < cntB k pre := cntB_pos hm
      rw [if_pos hm, List.nil_append] at heq ⊢
      refine And.intro rfl (Exists.intro es (Exists.intro c' (And.intro (w.get 0 rfl) (And.intro cm.fits ?_))))
      rw [e1]
      refine And.intro rfl (fun z hz => ?_)
      have hz := add_in hz (by omega) (by omega)
      subst hz
      refine And.intro rfl (Exists.intro es (Exists.intro c' (And.intro (w.get 0 rfl) (And.intro cm.fits ?_))))
      rw [e1]
      intro h4 p4
      have w := w.mput 0 rfl p4
      have cm := cm.put1 e1 rfl
      obtain ⟨j2, e2⟩ := cm.hit
      refine And.intro rfl (Exists.intro _ (Exists.intro _ (And.intro (w.get 0 rfl) (And.intro cm.fits ?_))))
      rw [e2]
      refine And.intro rfl (And.intro (fun h7 => absurd h7 (by simp; omega)) (fun _ => ?_))
      intro b5 h7 g7
      have w := w.new g7
      refine x.add w 3 rfl (one_sl (e := textE k s) (w.get 0 rfl)) (by simp only [List.length_singleton]; omega) fun _ h8 lv3 w => ?_
      have w := w.pick [1, 2, 3] (by decide)
      refine And.intro rfl (fun z hz => ?_)
      have hz := add_in hz (by omega) (by omega)
      subst hz
      exact And.intro rfl (Exists.intro (q + 1) (And.intro ⟨rfl, rfl, rfl, rfl, trivial⟩ (And.intro ⟨by omega, _, _, _, _, _, cm, by simp [hpl], by simp only [List.length_append, List.length_singleton]; omega, rfl, w⟩ (by omega))))
  · have hkl : A.drop (2 * q) = [] := List.drop_eq_nil_of_le (by omega)
    rw [hkl]
    refine w.callv Bok_calls fun h4 w => ?_
    refine w.st1 1 rfl rfl rfl rfl fun h5 w => ?_
    exact x.fin w 1 2 rfl rfl rfl
end

end Go.Proofs.YtgmkldaonkbjgaaGreatDoor
namespace Go.Proofs.YtgmkldaonkbjgaaGreatDoor
open Go Go.Sx Go.Proofs.YtgmkldaonkbjgaaGreatDoor.C

section
variable {h0 h h' : Heap} {ab kb sb mb c l D b2 : Nat} {now n : Int} {av lv : Value} {A : List ByteArray} {m : List KI} {S : Space} {T : List Nat} {M : List En} {r : Loop} {st st' : LoopState} {key s W N : ByteArray} {res : Res}

def lpE (l D : Nat) (r : Loop) (st : LoopState) : En :=
  .x [l, D] (fun h => LoopB h l r st none ∧ h[D]? = some (.deferred (some []))) (fun S h h' hc hn ⟨h1, h2⟩ => ⟨loopB_chg h1 hc (hn _ (by simp)), get_chg h2 hc (hn _ (by simp))⟩)
    (fun h ⟨h1, h2⟩ b hb => by
      rcases List.mem_cons.1 hb with rfl | hb
      · exact get_lt h1.at_
      · rw [List.mem_singleton.1 hb]; exact get_lt h2)
theorem _root_.Go.Sx.St.turn (w : St T h0 h M) (i : Nat) (hi : M[i]? = some (lpE l D r st)) (hne : D ≠ l) (t : Turn h h' l r st' none) : St T h0 h' (M.set i (lpE l D r st')) := by
  refine w.set i hi t.chg (fun b hb => .inl (by simp at hb; simp [lpE, En.fp, hb])) ⟨t.rec_, ?_⟩ (fun b hb => .inl hb)
  rw [t.old D hne]; exact (w.get i hi).2
def ltE (p : Nat) : En := .x [p] (fun h => p < h.size) (fun _ _ _ hc _ h1 => Nat.lt_of_lt_of_le h1 hc.size) (fun h h1 b hb => by rw [List.mem_singleton.1 hb]; exact h1)
def fixE (p : Nat) (o : Option Obj) : En := .x [p] (fun h => p < h.size ∧ h[p]? = o) (fun _ _ _ hc hn ⟨h1, h2⟩ => ⟨Nat.lt_of_lt_of_le h1 hc.size, by rw [hc.old p h1 (hn _ (by simp))]; exact h2⟩) (fun h h1 b hb => by rw [List.mem_singleton.1 hb]; exact h1.1)

theorem flush_calls (x : AS h0 h ab kb now av A lv []) (kr0 : KR h0 kb sb mb c m) (hs : Sorted m S) (hn : S.length < 65537) : CallsH Tryz.prog 76 [ptr ab] h (CmdR h0 h ab kb now av A lv (cFlush S A)) := by
  refine f76_calls (by simp) ?_
  intro b1 h1 g1
  have w := x.st.new g1
  intro b2 h2 g2
  have w := w.new g2
  refine w.ld1 1 rfl rfl ?_
  refine x.many w 2 rfl (fun hok _ => ?_) (fun hb => x.bad w (arg0_bad hb))
  obtain rfl := no_arg hok
  rw [show cFlush S [] = .ok (okR, S.map fun p => goneE p.1) from rfl]
  refine w.ld1 1 rfl rfl ?_
  refine w.lda 2 rfl rfl ?_
  refine call_ret (All_calls (kb := kb)) ?_
  rintro _ h3 ⟨bI, rfl, g3⟩
  have w := w.new g3
  intro l D r h7 hD hl7 hsz hold hmark hloop hy
  have hc7 : Chg [] h3 h7 := ⟨by omega, fun k hk _ => hold k hk⟩
  have hne : D ≠ l := by omega
  have w := w.add (e := lpE l D r .ready) hc7 ⟨hloop, hmark⟩ (fun b hb => by simp [lpE, En.fp] at hb; omega)
  refine (iter_calls hs (fun p k h' => ∃ lv', St (ab :: vblk lv) h h' [ltE p, lpE l D r .ready, .b bI [ptr kb], .b b2 [.int .i64 0, .int .i64 0, .string ⟨#[]⟩, .slice none 0 0], .b b1 [ptr ab], asE ab kb now av lv' ((S.take k).map fun p => goneE p.1)]) (fun _ => False) (w.get 1 rfl) (kr0.ext (x.base w))
    (fun p h' hp1 hp2 hc => ⟨lv, w.add (e := ltE p) hc hp2 (fun b hb => by simp [ltE, En.fp] at hb; omega)⟩) (fun p k h' ⟨lv', w⟩ => ⟨w.get 2 rfl, kr0.ext (x.base w)⟩) (fun p k h' h'' ⟨lv', w⟩ hc => ⟨lv', w.ext hc⟩) (fun p k h' us hk ⟨lv', w⟩ tu => ?_)).mono ?_
  · have hlp := w.get 0 rfl
    have w := w.set (e' := fixE p h'[p]?) 0 rfl (Chg.refl _) (by simp) ⟨hlp, rfl⟩ (fun b hb => .inl hb)
    have hkl : ((S.take k).map fun p => goneE p.1).length ≤ 65536 := by simp; omega
    have hmp := take_map (fun p : ByteArray × Thing => goneE p.1) S k hk
    refine hy h' _ _ (w.get 1 rfl).1 rfl ?_
    refine And.intro (w.get 1 rfl).1 (fun h10 t10 => ?_)
    have w := w.turn 1 rfl hne t10
    refine w.ld1 4 rfl rfl ?_
    intro b5 h6 g6
    have w := w.new g6
    refine x.add w 6 rfl (one_sl (e := goneE S[k].1) (w.get 0 rfl)) (by simp only [List.length_singleton]; omega) fun _ h8 lv2 w => ?_
    have w := w.pick [1, 2, 3, 4, 5, 6] (by decide)
    rw [← hmp] at w
    refine And.intro (w.get 1 rfl).1 (fun h13 t13 => ?_)
    have w := w.turn 1 rfl hne t13
    have hfx := w.get 0 rfl
    have w := w.set (e' := ltE p) 0 rfl (Chg.refl _) (by simp) hfx.1 (fun b hb => .inl hb)
    exact .inl ⟨rfl, ⟨lv2, w⟩, hfx.2⟩
  · intro e h8 he
    cases e with
    | panicked ch => exact he.elim
    | outgrown => exact he.elim
    | returned u =>
      obtain ⟨p, lv', w⟩ | hF := he
      rotate_left
      · exact hF.elim
      rw [List.take_of_length_le (Nat.le_refl _)] at w
      refine ⟨.ready, none, (w.get 1 rfl).1, by simp, fun h9 t9 => ?_⟩
      have w := w.turn 1 rfl hne t9
      refine w.callv Bok_calls fun h10 w => ?_
      refine w.st1 3 rfl rfl rfl rfl fun h11 w => ?_
      refine ⟨(w.get 1 rfl).2, fun h12 p12 => ?_⟩
      have w := w.gone 1 rfl p12.chg (fun b hb => .inl (by simp at hb; simp [lpE, En.fp, hb]))
      refine ⟨_, rfl, cells_blk (w.get 3 rfl), ?_⟩
      exact x.ends w 5 rfl ⟨none, 0, 0, rfl, SL.nil, fun b hb => (nomatch (show b ∈ ([] : List Nat) from hb))⟩ rfl

theorem keepE_no {go : Option Thing} : keepE go key false = [] := by unfold keepE; split <;> simp
theorem set_tail {h1 : Heap} {b o cc : Nat} {nx : Bool} (x : AS h0 h ab kb now av A lv []) (kr0 : KR h0 kb sb mb c m) (hs : Sorted m S) (hk : key.size < 4611686018427387904) (hz : s.size < 4611686018427387904)
    (w : St (ab :: vblk lv) h h1 [.b b2 [.int .i64 0, .int .i64 0, .string ⟨#[]⟩, .slice none 0 0], asE ab kb now av lv []]) :
    swp Tryz.prog (.seq (.seq (.two f57p13 f57r13 f57s13) (.seq (.ops f57r14) (.cond (.tmp 109) (.seq (.ops f57r15) .ret) .skip))) (.seq (.ops f57r16) (.seq (.ops f57r17) .ret))) (retQ [.cn 2 4] (CmdR h0 h ab kb now av A lv (if nx = true then setNx S now key s else putR S key s now false okR)))
      (mk [(0, ptr ab), (2, ptr b2), (3, .string key), (4, .string s), (6, .bool nx)]) [] h1 := by
  refine w.lda 1 rfl rfl ?_
  refine w.lda 1 rfl rfl ?_
  refine get_two w (x.getc kr0 hs w key) [(0, ptr ab), (2, ptr b2), (3, .string key), (4, .string s), (6, .bool nx)] rfl rfl rfl ⟨rfl, rfl, rfl, rfl, rfl, trivial⟩ rfl (mono_at (mono_seq mono_retQ)) fun h2 b3 pv lw rv w => ?_
  unfold setNx
  rw [show here S now key = (getS S key now).isSome from rfl]
  generalize (getS S key now).isSome = bo
  generalize (getS S key now).getD zeroT = t at w
  cases nx with
  | false =>
    refine x.put kr0 hs w 3 rfl (by simp) hk hz (fun _ h4 lv2 hfit w => ?_) (fun hb => x.bad w (if_neg hb))
    refine w.callv Bok_calls fun h5 w => ?_
    refine w.st1 2 rfl rfl rfl rfl fun h6 w => ?_
    exact x.fin w 2 3 rfl rfl (if_pos hfit)
  | true =>
    cases bo with
    | false =>
      refine x.put kr0 hs w 3 rfl (by simp) hk hz (fun _ h4 lv2 hfit w => ?_) (fun hb => x.bad w (if_neg hb))
      refine w.callv Bok_calls fun h5 w => ?_
      refine w.st1 2 rfl rfl rfl rfl fun h6 w => ?_
      exact x.fin w 2 3 rfl rfl (if_pos hfit)
    | true =>
      refine w.st1 2 rfl rfl rfl rfl fun h6 w => ?_
      exact x.fin w 2 3 rfl rfl rfl

theorem set2_calls (x : AS h0 h ab kb now av [key, s] lv []) (kr0 : KR h0 kb sb mb c m) (hs : Sorted m S) (hk : key.size < 4611686018427387904) (hz : s.size < 4611686018427387904) :
    CallsH Tryz.prog 57 [ptr ab] h (CmdR h0 h ab kb now av [key, s] lv (cSet S now up [key, s])) := by
  refine f57_calls (by simp) ?_
  intro b2 h1 g1
  have w := x.st.new g1
  refine x.many w 1 rfl (fun _ _ => ?_) (fun hb => absurd ⟨by simp, by simp⟩ hb)
  obtain ⟨b, o, cc, rfl⟩ := x.argF (by simp)
  rw [show cSet S now up [key, s] = (if false = true then setNx S now key s else putR S key s now false okR) from rfl]
  refine w.lda 1 rfl rfl ?_
  refine x.ix (x.base w) 0 rfl rfl ?_
  refine w.lda 1 rfl rfl ?_
  refine x.ix (x.base w) 1 rfl rfl ?_
  refine w.lda 1 rfl rfl ?_
  refine And.intro rfl (And.intro (fun h9 => absurd h9 (by simp)) (fun _ => ?_))
  refine w.lda 1 rfl rfl ?_
  refine And.intro rfl (And.intro (fun h9 => absurd h9 (by simp)) (fun _ => ?_))
  refine w.lda 1 rfl rfl ?_
  refine And.intro rfl (And.intro (fun _ => ?_) (fun h9 => absurd (by simp) h9))
  refine must_yes fun _ => ?_
  refine cut_at [(0, ptr ab), (2, ptr b2), (3, .string key), (4, .string s), (5, .bool false), (6, .bool false)] ⟨rfl, rfl, rfl, rfl, rfl, rfl, trivial⟩ ?_
  refine ass_go ?_
  refine mv_go (v := .bool false) rfl ?_
  refine cnd_go (t := false) rfl ?_
  refine skp_go ?_
  exact cut_at [(0, ptr ab), (2, ptr b2), (3, .string key), (4, .string s), (6, .bool false)] ⟨rfl, rfl, rfl, rfl, rfl, trivial⟩ (set_tail (b := b) (o := o) (cc := cc) x kr0 hs hk hz w)

theorem set3_calls (x : AS h0 h ab kb now av [key, s, W] lv []) (kr0 : KR h0 kb sb mb c m) (hs : Sorted m S) (hk : key.size < 4611686018427387904) (hz : s.size < 4611686018427387904) (hw : W.size < 4611686018427387904) :
    CallsH Tryz.prog 57 [ptr ab] h (CmdR h0 h ab kb now av [key, s, W] lv (cSet S now up [key, s, W])) := by
  refine f57_calls (by simp) ?_
  intro b2 h1 g1
  have w := x.st.new g1
  refine x.many w 1 rfl (fun _ _ => ?_) (fun hb => absurd ⟨by simp, by simp⟩ hb)
  obtain ⟨b, o, cc, rfl⟩ := x.argF (by simp)
  rw [show cSet S now up [key, s, W] = (if up W = sNX then setNx S now key s else .error wArgs) from rfl]
  refine w.lda 1 rfl rfl ?_
  refine x.ix (x.base w) 0 rfl rfl ?_
  refine w.lda 1 rfl rfl ?_
  refine x.ix (x.base w) 1 rfl rfl ?_
  refine w.lda 1 rfl rfl ?_
  refine And.intro rfl (And.intro (fun h9 => absurd h9 (by simp)) (fun _ => ?_))
  refine w.lda 1 rfl rfl ?_
  refine And.intro rfl (And.intro (fun _ => ?_) (fun h9 => absurd (by simp) h9))
  refine w.lda 1 rfl rfl ?_
  refine x.ix (x.base w) 2 rfl rfl ?_
  refine w.callv (bword_calls hw) fun h2 w => ?_
  refine And.intro (fun h9 => ?_) (fun h9 => ?_)
  · rw [if_pos (show up W = sNX from h9)]
    rw [show setNx S now key s = (if true = true then setNx S now key s else putR S key s now false okR) from rfl]
    refine w.lda 1 rfl rfl ?_
    refine And.intro rfl (And.intro (fun h9 => absurd h9 (by simp)) (fun _ => ?_))
    refine must_yes fun _ => ?_
    refine cut_at [(0, ptr ab), (2, ptr b2), (3, .string key), (4, .string s), (5, .bool false), (6, .bool true)] ⟨rfl, rfl, rfl, rfl, rfl, rfl, trivial⟩ ?_
    refine ass_go ?_
    refine mv_go (v := .bool false) rfl ?_
    refine cnd_go (t := false) rfl ?_
    refine skp_go ?_
    exact cut_at [(0, ptr ab), (2, ptr b2), (3, .string key), (4, .string s), (6, .bool true)] ⟨rfl, rfl, rfl, rfl, rfl, trivial⟩ (set_tail (b := b) (o := o) (cc := cc) x kr0 hs hk hz w)
  · rw [if_neg (show ¬ up W = sNX from h9)]
    refine w.lda 1 rfl rfl ?_
    refine And.intro rfl (And.intro (fun h9 => absurd h9 (by simp)) (fun _ => ?_))
    exact must_no (x.bad w rfl)

theorem setPx_some : setPx S now key s (some n) = (if n < 1 then .error wRange else if okSum now n then (if s.size ≤ 1048576 ∧ key.size ≤ 1048576 then .ok (okR, putE S key s now false ++ [untilE key (now + n)]) else .error wLong) else .error wOver) := rfl
theorem set4_calls (x : AS h0 h ab kb now av [key, s, W, N] lv []) (kr0 : KR h0 kb sb mb c m) (hs : Sorted m S) (hl : LaidN h0) (hn : In64 now) (hA : ∀ a ∈ [key, s, W, N], a.size < 281474976710656) :
    CallsH Tryz.prog 57 [ptr ab] h (CmdR h0 h ab kb now av [key, s, W, N] lv (cSet S now up [key, s, W, N])) := by
  have hk := hA key (by simp)
  have hz := hA s (by simp)
  have hw := hA W (by simp)
  refine f57_calls (by simp) ?_
  intro b2 h1 g1
  have w := x.st.new g1
  refine x.many w 1 rfl (fun _ _ => ?_) (fun hb => absurd ⟨by simp, by simp⟩ hb)
  obtain ⟨b, o, cc, rfl⟩ := x.argF (by simp)
  rw [show cSet S now up [key, s, W, N] = (if up W = sPX then setPx S now key s (numOf N) else .error wArgs) from rfl]
  refine w.lda 1 rfl rfl ?_
  refine x.ix (x.base w) 0 rfl rfl ?_
  refine w.lda 1 rfl rfl ?_
  refine x.ix (x.base w) 1 rfl rfl ?_
  refine w.lda 1 rfl rfl ?_
  refine And.intro rfl (And.intro (fun _ => ?_) (fun h9 => absurd (by simp) h9))
  refine w.lda 1 rfl rfl ?_
  refine x.ix (x.base w) 2 rfl rfl ?_
  refine w.callv (bword_calls (by omega)) fun h2 w => ?_
  refine And.intro (fun h9 => ?_) (fun h9 => ?_)
  · rw [if_pos (show up W = sPX from h9)]
    refine w.lda 1 rfl rfl ?_
    refine And.intro rfl (And.intro (fun h9 => absurd h9 (by simp)) (fun _ => ?_))
    refine w.lda 1 rfl rfl ?_
    refine And.intro rfl (And.intro (fun h9 => absurd h9 (by simp)) (fun _ => ?_))
    refine must_yes fun _ => ?_
    refine x.num (j := 3) hl (by simp) (hA _ (by simp)) w 1 rfl (fun h3 n hnum w => ?_) (fun h3 hnum w => x.bad w (by rw [show numOf N = none from hnum]; rfl))
    have hnum : numOf N = some n := hnum
    have hn2 := numOf_in hnum
    rw [hnum]
    rw [setPx_some]
    refine And.intro rfl (And.intro (fun h1 => ?_) (fun h1 => must_no (x.bad w (if_pos (by omega)))))
    refine must_yes fun _ => ?_
    rw [if_neg (show ¬ n < 1 by omega)]
    refine w.lda 1 rfl rfl ?_
    refine plus_go hn hn2 (fun hok => ?_) (fun hb => x.bad w (if_neg hb))
    rw [if_pos hok]
    refine x.put kr0 hs w 1 rfl (by simp) (by omega) (by omega) (fun _ h4 lv2 hfit w => ?_) (fun hb => x.bad w (if_neg hb))
    have dl := drops_len S key now
    intro b5 h5 g5
    have w := w.new g5
    refine x.add w 2 rfl (one_sl (e := untilE key (now + n)) (w.get 0 rfl)) (by simp only [putE, keepE_no, List.length_append, List.length_singleton, List.length_nil]; omega) fun _ h6 lv3 w => ?_
    refine w.callv Bok_calls fun h7 w => ?_
    refine w.st1 1 rfl rfl rfl rfl fun h8 w => ?_
    exact x.fin w 1 2 rfl rfl (if_pos hfit)
  · rw [if_neg (show ¬ up W = sPX from h9)]
    refine w.lda 1 rfl rfl ?_
    refine And.intro rfl (And.intro (fun h9 => absurd h9 (by simp)) (fun _ => ?_))
    refine w.lda 1 rfl rfl ?_
    refine And.intro rfl (And.intro (fun h9 => absurd h9 (by simp)) (fun _ => ?_))
    exact must_no (x.bad w rfl)

theorem set_calls (x : AS h0 h ab kb now av A lv []) (kr0 : KR h0 kb sb mb c m) (hs : Sorted m S) (hl : LaidN h0) (hn : In64 now) (hA : ∀ a ∈ A, a.size < 281474976710656) :
    CallsH Tryz.prog 57 [ptr ab] h (CmdR h0 h ab kb now av A lv (cSet S now up A)) := by
  have bad : cSet S now up A = .error wArgs → ¬ (2 ≤ A.length ∧ A.length ≤ 4) → CallsH Tryz.prog 57 [ptr ab] h (CmdR h0 h ab kb now av A lv (cSet S now up A)) := fun he hne => by
    refine f57_calls (by simp) ?_
    intro b2 h1 g1
    have w := x.st.new g1
    exact x.many w 1 rfl (fun hh _ => absurd ⟨by omega, by omega⟩ hne) (fun _ => x.bad w he)
  match A, x, hA, bad with
  | [], _, _, bad => exact bad rfl (by simp)
  | [_], _, _, bad => exact bad rfl (by simp)
  | [key, s], x, hA, _ => exact set2_calls x kr0 hs (by have := hA key (by simp); omega) (by have := hA s (by simp); omega)
  | [key, s, W], x, hA, _ => exact set3_calls x kr0 hs (by have := hA key (by simp); omega) (by have := hA s (by simp); omega) (by have := hA W (by simp); omega)
  | [key, s, W, N], x, hA, _ => exact set4_calls x kr0 hs hl hn hA
  | _ :: _ :: _ :: _ :: _ :: _, _, _, bad => exact bad rfl (by simp)
end

end Go.Proofs.YtgmkldaonkbjgaaGreatDoor
namespace Go.Proofs.YtgmkldaonkbjgaaGreatDoor
open Go Go.Sx Go.Proofs.YtgmkldaonkbjgaaGreatDoor.C

def Fine (S : Space) (res : Res) : Prop := ∀ q E, res = .ok (q, E) → q.k ≠ 2 ∧ E.length ≤ 100000 ∧ ∃ S', allS S E = some S'

section
variable {S : Space} {now n : Int} {A : List ByteArray} {res : Res} {q r : Rep} {E : List Eff} {k s w : ByteArray} {go : Option Thing}

theorem Fine.bad : Fine S (.error w) := fun q E h => by cases h
theorem Fine.of (hq : r.k ≠ 2) (hE : E.length ≤ 100000) (h : ∃ S', allS S E = some S') : Fine S (.ok (r, E)) := fun q E' e => by
  cases e
  exact ⟨hq, hE, h⟩
theorem Fine.none_ (hq : r.k ≠ 2) : Fine S (.ok (r, [])) := Fine.of hq (by simp) ⟨S, rfl⟩
theorem Fine.ite {c : Prop} [Decidable c] {a b : Res} (ha : c → Fine S a) (hb : ¬ c → Fine S b) : Fine S (if c then a else b) := by
  split
  · exact ha (by assumption)
  · exact hb (by assumption)
theorem Fine.done (hq : ∀ q E, res = .ok (q, E) → q.k ≠ 2 ∧ E.length ≤ 100000) (h : ∀ q E, res = .ok (q, E) → ∃ S', allS S E = some S') : Fine S res := fun q E e => ⟨(hq q E e).1, (hq q E e).2, h q E e⟩
theorem Fine.arg1 {f : ByteArray → Res} (h : ∀ x ∈ A, Fine S (f x)) : Fine S (arg1 f A) := by
  unfold Proofs.YtgmkldaonkbjgaaGreatDoor.arg1
  split
  · exact h _ (by simp)
  · exact Fine.bad
theorem Fine.arg2 {f : ByteArray → ByteArray → Res} (h : ∀ x y, Fine S (f x y)) : Fine S (arg2 f A) := by
  unfold Proofs.YtgmkldaonkbjgaaGreatDoor.arg2
  split
  · exact h _ _
  · exact Fine.bad
theorem Fine.arg0 (h : Fine S res) : Fine S (arg0 res A) := by
  unfold Proofs.YtgmkldaonkbjgaaGreatDoor.arg0
  split
  · exact h
  · exact Fine.bad

theorem keepE_len {stays : Bool} : (keepE go k stays).length ≤ 1 := by
  unfold keepE
  split
  · split <;> simp
  · simp
theorem putE_len {stays : Bool} : (putE S k s now stays).length ≤ 3 := by
  have := drops_len S k now
  have := keepE_len (go := getS S k now) (k := k) (stays := stays)
  simp only [putE, List.length_append, List.length_singleton]
  omega
theorem Fine.putR {stays : Bool} (f : Few S) (hq : r.k ≠ 2) : Fine S (putR S k s now stays r) := by
  refine Fine.done (fun q E h => ?_) fun q E h => putR_done f h
  have e := putR_rep h
  unfold Proofs.YtgmkldaonkbjgaaGreatDoor.putR at h
  split at h
  · have := putE_len (S := S) (k := k) (s := s) (now := now) (stays := stays)
    simp at h
    obtain ⟨_, rfl⟩ := h
    exact ⟨e ▸ hq, by omega⟩
  · cases h

theorem fine_get : Fine S (cGet S now A) := Fine.arg1 fun x _ => by
  unfold gGet
  split
  · exact Fine.none_ (by decide)
  · exact Fine.ite (fun _ => Fine.none_ (by show (4 : Int) ≠ 2; decide)) fun _ => Fine.bad
theorem fine_long : Fine S (cLong S now A) := Fine.arg1 fun x _ => Fine.ite (fun _ => Fine.none_ (by show (3 : Int) ≠ 2; decide)) fun _ => Fine.bad
theorem fine_by (f : Few S) : Fine S (gBy S k now n go) := Fine.ite (fun _ => by
  unfold byStep
  split
  · exact Fine.bad
  · exact Fine.ite (fun _ => Fine.putR f (by show (3 : Int) ≠ 2; decide)) fun _ => Fine.bad) fun _ => Fine.bad
theorem fine_step (f : Few S) : Fine S (cStep S now n A) := Fine.arg1 fun x _ => fine_by f
theorem fine_incrby (f : Few S) : Fine S (cIncrby S now A) := Fine.arg2 fun x y => by
  unfold gIncr
  split
  · exact Fine.bad
  · exact fine_by f
theorem fine_more (f : Few S) : Fine S (cMore S now A) := Fine.arg2 fun x y => Fine.ite (fun _ => Fine.putR f (by show (3 : Int) ≠ 2; decide)) fun _ => Fine.bad
theorem fine_set (f : Few S) {up : ByteArray → ByteArray} : Fine S (cSet S now up A) := by
  unfold cSet
  split
  · exact Fine.putR f (by decide)
  · exact Fine.ite (fun _ => Fine.ite (fun _ => Fine.none_ (by decide)) fun _ => Fine.putR f (by decide)) fun _ => Fine.bad
  · rename_i key s w n
    refine Fine.ite (fun hw => ?_) fun _ => Fine.bad
    refine Fine.done (fun q E h => ?_) fun q E h => set_done (up := up) (A := [key, s, w, n]) f (by show (if up w = sPX then _ else _) = _; rw [if_pos hw]; exact h)
    unfold setPx at h
    split at h
    · cases h
    · split at h
      · cases h
      · split at h
        · split at h
          · simp at h
            obtain ⟨rfl, rfl⟩ := h
            have := putE_len (S := S) (k := key) (s := s) (now := now) (stays := false)
            exact ⟨by decide, by simp; omega⟩
          · cases h
        · cases h
  · exact Fine.bad
theorem fine_del (f : Few S) : Fine S (cDel S now A) := by
  refine Fine.done (fun q E h => ?_) fun q E h => del_done f h
  unfold cDel inMost at h
  split at h
  · simp at h
    obtain ⟨rfl, rfl⟩ := h
    have := delL_len (S := S) (now := now) (L := A) (pre := [])
    exact ⟨by show (3 : Int) ≠ 2; decide, by omega⟩
  · cases h
theorem fine_exists : Fine S (cExists S now A) := Fine.ite (fun _ => Fine.none_ (by show (3 : Int) ≠ 2; decide)) fun _ => Fine.bad
theorem fine_kind : Fine S (cKind S now A) := Fine.arg1 fun x _ => Fine.none_ (by show (1 : Int) ≠ 2; decide)
theorem fine_mget : Fine S (cMget S now A) := Fine.ite (fun _ => Fine.none_ (by show (5 : Int) ≠ 2; decide)) fun _ => Fine.bad
theorem msetL_len : ∀ (m : Nat) (L pre : List ByteArray) (E0 : List Eff), L.length ≤ m → msetL S now pre L E0 = .ok (q, E) → q.k = 1 ∧ E.length ≤ E0.length + 2 * L.length
  | 0, L, pre, E0, hn, h => by
    have : L = [] := by simpa using hn
    subst this
    simp [msetL] at h
    obtain ⟨rfl, rfl⟩ := h
    exact ⟨rfl, by omega⟩
  | m + 1, [], pre, E0, _, h => by
    simp [msetL] at h
    obtain ⟨rfl, rfl⟩ := h
    exact ⟨rfl, by omega⟩
  | m + 1, [x], pre, E0, _, h => by
    simp [msetL] at h
    obtain ⟨rfl, rfl⟩ := h
    exact ⟨rfl, by omega⟩
  | m + 1, k :: s :: L, pre, E0, hn, h => by
    rw [msetL_two] at h
    split at h
    · obtain ⟨h1, h2⟩ := msetL_len m L (pre ++ [k]) _ (by simp at hn; omega) h
      refine ⟨h1, Nat.le_trans h2 ?_⟩
      have key : ∀ D : List Eff, D.length ≤ 1 → (E0 ++ (D ++ [textE k s])).length + 2 * L.length ≤ E0.length + 2 * (k :: s :: L).length := fun D hD => by
        simp only [List.length_append, List.length_cons, List.length_nil]
        omega
      refine key _ ?_
      split
      · exact Nat.zero_le _
      · exact drops_len S k now
    · cases h
theorem fine_mset (f : Few S) (hA : A.length ≤ 20) : Fine S (cMset S now A) := by
  refine Fine.done (fun q E h => ?_) fun q E h => mset_ok f (by omega) h
  unfold cMset inMost at h
  split at h
  · split at h
    · obtain ⟨h1, h2⟩ := msetL_len A.length A [] [] (Nat.le_refl _) h
      exact ⟨by rw [h1]; decide, by simp at h2; omega⟩
    · cases h
  · cases h
theorem fine_expire (f : Few S) : Fine S (cExpire S now A) := by
  refine Fine.done (fun q E h => ?_) fun q E h => expire_done f h
  unfold cExpire Proofs.YtgmkldaonkbjgaaGreatDoor.arg2 at h
  split at h
  · rename_i key s
    have h : gExpire S now key (numOf s) = .ok (q, E) := h
    unfold gExpire at h
    split at h
    · cases h
    · split at h
      · split at h
        · simp at h; obtain ⟨rfl, rfl⟩ := h; exact ⟨by decide, by simp⟩
        · split at h
          · simp at h; obtain ⟨rfl, rfl⟩ := h; exact ⟨by decide, by simp⟩
          · cases h
      · simp at h; obtain ⟨rfl, rfl⟩ := h; exact ⟨by decide, by simp⟩
  · cases h
theorem fine_persist (f : Few S) : Fine S (cPersist S now A) := by
  refine Fine.done (fun q E h => ?_) fun q E h => persist_done f h
  unfold cPersist Proofs.YtgmkldaonkbjgaaGreatDoor.arg1 at h
  split at h
  · rename_i key
    have h : gPersist key (getS S key now) = .ok (q, E) := h
    unfold gPersist at h
    split at h
    · simp at h; obtain ⟨rfl, rfl⟩ := h; exact ⟨by decide, by simp⟩
    · split at h
      · simp at h; obtain ⟨rfl, rfl⟩ := h; exact ⟨by decide, by simp⟩
      · simp at h; obtain ⟨rfl, rfl⟩ := h; exact ⟨by decide, by simp⟩
  · cases h
theorem fine_left : Fine S (cLeft S now A) := Fine.arg1 fun x _ => by
  unfold gLeft
  split
  · exact Fine.none_ (by decide)
  · exact Fine.ite (fun _ => Fine.ite (fun _ => Fine.none_ (by show (3 : Int) ≠ 2; decide)) fun _ => Fine.bad) fun _ => Fine.none_ (by decide)
theorem fine_names : Fine S (cNames S now A) := Fine.arg0 (Fine.none_ (by show (5 : Int) ≠ 2; decide))
theorem fine_size : Fine S (cSize S now A) := Fine.arg0 (Fine.none_ (by show (3 : Int) ≠ 2; decide))
theorem fine_flush (f : Few S) : Fine S (cFlush S A) := by
  refine Fine.done (fun q E h => ?_) fun q E h => flush_done f h
  unfold cFlush Proofs.YtgmkldaonkbjgaaGreatDoor.arg0 at h
  split at h
  · simp at h
    obtain ⟨rfl, rfl⟩ := h
    have := f.len
    exact ⟨by decide, by simp; omega⟩
  · cases h
end

theorem lookF_mem : ∀ {L : List (List UInt8 × Nat × Option Int)} {w : ByteArray} {p : Nat × Option Int}, lookF L w = some p → p ∈ L.map (·.2)
  | [], w, p, h => by cases h
  | (n, g, z) :: L, w, p, h => by
    simp only [lookF] at h
    split at h
    · cases h; simp
    · simp [lookF_mem h]

def AnyR (h : Heap) (S : Space) (r : Value) (h' : Heap) : Prop := (r = nothing8 ∧ Chg [] h h') ∨ ∃ res, Fine S res ∧ DoR h res r h'

theorem do_any {h : Heap} {kb sb mb c : Nat} {now : Int} {av : Value} {A : List ByteArray} {m : List KI} {S : Space} (kr : KR h kb sb mb c m) (hs : Sorted m S) (s8 : S8 S) (hla : LaidN h) (hn : In64 now)
    (hA : SL encS h av A) (hl : A.length ≤ 20) (hz : ∀ s ∈ A, s.size ≤ 300) : CallsH Tryz.prog 11 [ptr kb, .int .i64 now, av] h (Ret (AnyR h S)) := by
  have few := s8.few
  have hsl := few.len
  match A, hA, hl, hz with
  | [], hA, _, _ =>
    obtain ⟨a, cc, rfl, _⟩ := hA.form
    exact do_empty.mono fun e h' he => by
      cases e with
      | returned v => exact .inl he
      | panicked ch => exact he
      | outgrown => exact he
  | w :: A, hA, hl, hz =>
    have hl : A.length + 1 ≤ 20 := hl
    have hzw := hz w (by simp)
    have hll : (w :: A).length < 4611686018427387904 := by simp only [List.length_cons]; omega
    have hz9 : ∀ s ∈ w :: A, s.size < 281474976710656 := fun s hs => by have := hz s hs; omega
    have hzA : ∀ s ∈ A, s.size < 281474976710656 := fun s hs => hz9 s (by simp [hs])
    cases hf : lookF cmdF (up w) with
    | none =>
      exact (do_none (W := w) kr hA hll (by omega) hf).mono fun e h' he => by
        cases e with
        | returned v => exact .inl he
        | panicked ch => exact he
        | outgrown => exact he
    | some p =>
      have ok : ∀ {res : Res}, Fine S res → CallsH Tryz.prog 11 [ptr kb, .int .i64 now, av] h (Ret (DoR h res)) → CallsH Tryz.prog 11 [ptr kb, .int .i64 now, av] h (Ret (AnyR h S)) := fun {res} hfi hc => hc.mono fun e h' he => by
        cases e with
        | returned v => exact .inr ⟨res, hfi, he⟩
        | panicked ch => exact he
        | outgrown => exact he
      have hm := lookF_mem hf
      simp only [cmdF, List.map_cons, List.map_nil, List.mem_cons, List.not_mem_nil, or_false] at hm
      rcases hm with rfl | rfl | rfl | rfl | rfl | rfl | rfl | rfl | rfl | rfl | rfl | rfl | rfl | rfl | rfl | rfl | rfl | rfl
      · exact ok (fine_set few) (do_plain kr hA hll (by omega) hf fun h1 ab av' x => set_calls x kr hs hla hn hzA)
      · exact ok fine_get (do_plain kr hA hll (by omega) hf fun h1 ab av' x => get_calls x kr hs)
      · exact ok (fine_del few) (do_plain kr hA hll (by omega) hf fun h1 ab av' x => del_calls x kr hs)
      · exact ok fine_exists (do_plain kr hA hll (by omega) hf fun h1 ab av' x => exists_calls x kr hs)
      · exact ok fine_kind (do_plain kr hA hll (by omega) hf fun h1 ab av' x => kind_calls x kr hs s8.kind)
      · exact ok (fine_step few) (do_step kr hs hla s8.text hA hll hz9 ⟨by decide, by decide⟩ hf)
      · exact ok (fine_step few) (do_step kr hs hla s8.text hA hll hz9 ⟨by decide, by decide⟩ hf)
      · exact ok (fine_incrby few) (do_plain kr hA hll (by omega) hf fun h1 ab av' x => incrby_calls x kr hs hla hzA s8.text)
      · exact ok (fine_more few) (do_plain kr hA hll (by omega) hf fun h1 ab av' x => more_calls x kr hs hzA s8.text)
      · exact ok fine_long (do_plain kr hA hll (by omega) hf fun h1 ab av' x => long_calls x kr hs)
      · exact ok fine_mget (do_plain kr hA hll (by omega) hf fun h1 ab av' x => mget_calls x kr hs)
      · exact ok (fine_mset few (by omega)) (do_plain kr hA hll (by omega) hf fun h1 ab av' x => mset_calls x kr hs hzA)
      · exact ok (fine_expire few) (do_plain kr hA hll (by omega) hf fun h1 ab av' x => expire_calls x kr hs hla hn hzA)
      · exact ok (fine_persist few) (do_plain kr hA hll (by omega) hf fun h1 ab av' x => persist_calls x kr hs)
      · exact ok fine_left (do_plain kr hA hll (by omega) hf fun h1 ab av' x => left_calls x kr hs hn fun k _ t ht => untS_get s8.unt ht)
      · exact ok fine_names (do_plain kr hA hll (by omega) hf fun h1 ab av' x => namesC_calls x kr hs (by omega))
      · exact ok fine_size (do_plain kr hA hll (by omega) hf fun h1 ab av' x => size_calls x kr hs)
      · exact ok (fine_flush few) (do_plain kr hA hll (by omega) hf fun h1 ab av' x => flush_calls x kr hs (by omega))

end Go.Proofs.YtgmkldaonkbjgaaGreatDoor
namespace Go.Proofs.YtgmkldaonkbjgaaGreatDoor
open Go Go.Sx Go.Proofs.YtgmkldaonkbjgaaGreatDoor.C

theorem known8_ret {h : Heap} (hla : LaidN h) : CallsH Tryz.prog 8 [] h (Ret fun r h' => r = .bool true ∧ Chg [] h h') := by
  refine f8_calls (by simp) ?_
  refine call_ret New_calls ?_
  rintro _ h1 ⟨kb, sb, mb, rfl, ks, hm, _, _, _, c1⟩
  have kr : KR h1 kb sb mb 0 [] := ⟨ks, hm, by simp, by simp, by simp, by simp, by simp, by simp⟩
  have hs : Sorted [] [] := ⟨List.Pairwise.nil, by simp⟩
  intro b2 h2 g2
  have sa : SL encS h2 (.slice (some ⟨b2, 0, none⟩) 2 2) [⟨#[105, 110, 99, 114]⟩, ⟨#[97]⟩] := by
    refine ⟨_, 2, rfl, Nat.le_refl _, ?_⟩
    exact cells_blk g2.blk
  refine call_ret (do_step (n := 1) (kr.ext g2.chg) hs ((hla.ext c1).ext g2.chg) (S := []) (fun p hp => by simp at hp) sa (by simp) (fun s hs => ?_) ⟨by decide, by decide⟩ (by kernel_rfl)) ?_
  · simp at hs
    rcases hs with rfl | rfl <;> decide
  rintro r h3 ⟨c3, hr⟩
  have e : cStep [] 0 1 [⟨#[97]⟩] = .ok (rep 3 1 noText, [textE ⟨#[97]⟩ ⟨#[49]⟩]) := by kernel_rfl
  rw [e] at hr
  obtain ⟨vq, lv, rfl, ⟨ra, rn, rc, rfl, sl, fr⟩, hsl, hfr⟩ := hr
  obtain ⟨la, lc, rfl, _⟩ := hsl.form
  obtain ⟨lb, lo, rfl⟩ := hsl.addr (by simp)
  intro b9 h4 g4
  have w := (St.start h3).new g4
  refine w.st1 0 rfl rfl rfl rfl fun h5 w => ?_
  have hcs := (hsl.ext w.chg).cells encD_len (i := 0) (x := textE ⟨#[97]⟩ ⟨#[49]⟩) rfl
  refine w.ld1 0 rfl rfl ?_
  refine And.intro rfl (And.intro (fun _ => ?_) (fun hne => absurd rfl hne))
  refine w.ld1 0 rfl rfl ?_
  refine And.intro rfl (And.intro (fun _ => ?_) (fun hne => absurd rfl hne))
  refine And.intro rfl (And.intro (fun _ => ?_) (fun hne => absurd rfl hne))
  refine And.intro (by decide) (And.intro (by simp) (Exists.intro _ (And.intro (by simpa using hcs 0 _ rfl) ?_)))
  refine And.intro rfl (And.intro (fun _ => ?_) (fun hne => absurd rfl hne))
  refine And.intro (by decide) (And.intro (by simp) (Exists.intro _ (And.intro (by simpa using hcs 3 _ rfl) ?_)))
  refine And.intro (fun _ => ?_) (fun hne => absurd rfl hne)
  exact ⟨rfl, ((c1.nil g2.chg).nil c3).nil w.chg⟩

theorem kn8 {h h2 : Heap} {K : Value → Heap → Prop} {Qp : List PanicEntry → Heap → Prop} (hla : LaidN h) (c2 : Chg [] h h2) (hK : ∀ h', Chg [] h h' → K (.bool true) h') : CallsH Tryz.prog 8 [] h2 (after K Qp) :=
  call_ret (known8_ret (hla.ext c2)) fun v h' hv => by rw [hv.1]; exact hK h' (c2.nil hv.2)

end Go.Proofs.YtgmkldaonkbjgaaGreatDoor
namespace Go.Proofs.YtgmkldaonkbjgaaGreatDoor
open Go Go.Sx Go.Proofs.YtgmkldaonkbjgaaGreatDoor.C

theorem BasicsEffects_calls {h : Heap} {v u : Value} {l : List RX} {A : List ByteArray} {now : Int} (hv : SL encX h v l) (hu : SL encS h u A) (g : GX h l) (f : XFit l) (fd : SFit A) (hun : ∀ x ∈ l, In64 x.thing.unt) (hn : In64 now) (hla : LaidN h) :
    CallsH Tryz.prog 5 [v, .int .i64 now, u] h (Ret fun r h' => r = .bool true ∧ Chg [] h h') := by
  refine f5_calls (by simp) ?_
  refine call_ret (vast8_calls hv hu g f fd) ?_
  rintro _ h1 ⟨⟨b, rfl, hb⟩, c1⟩
  cases b with
  | true => exact kn8 hla c1 fun h2 c2 => And.intro rfl c2
  | false =>
    obtain ⟨nv, sm⟩ := hb rfl
    refine call_ret (KOf_calls (hv.ext c1) (g.ext c1) nv) ?_
    rintro r2 h2 ⟨c2, ho⟩
    have c02 := c1.nil c2
    cases hk2 : ofX [] l with
    | none =>
      rw [hk2] at ho
      subst ho
      refine And.intro rfl (And.intro (fun _ => ?_) (fun hne => absurd (by decide) hne))
      exact kn8 hla c02 fun h3 c3 => And.intro rfl c3
    | some k =>
      rw [hk2] at ho
      obtain ⟨kb, sb, mb, c, m, rfl, kr, hpr, hmb⟩ := ho
      have hW := sorted_of hpr hk2
      have s8 := s8_of nv hk2 hun
      have hz1 := c1.size
      have hlm : mb < h2.size := get_lt kr.map
      refine And.intro rfl (And.intro (fun hne => absurd rfl hne) (fun _ => ?_))
      refine call_ret (do_any kr hW s8 (hla.ext c02) hn (hu.ext c02) sm.len sm.each) ?_
      rintro r3 h3 (⟨rfl, c3⟩ | ⟨res, hfi, c3, hr⟩)
      · intro b9 h4 g4
        have w := (St.start h3).new g4
        refine w.st1 0 rfl rfl rfl rfl fun h5 w => ?_
        refine And.intro rfl (And.intro (fun _ => ?_) (fun hne => absurd rfl hne))
        exact kn8 hla ((c02.nil c3).nil w.chg) fun h6 c6 => And.intro rfl c6
      · cases res with
        | error why =>
          have hr : r3 = .tuple ⟨[repV 2 0 why, .slice none 0 0, .bool true]⟩ := hr
          subst hr
          intro b9 h4 g4
          have w := (St.start h3).new g4
          refine w.st1 0 rfl rfl rfl rfl fun h5 w => ?_
          refine w.ld1 0 rfl rfl ?_
          refine And.intro rfl (And.intro (fun _ => ?_) (fun hne => absurd rfl hne))
          refine And.intro rfl (And.intro (fun _ => ?_) (fun hne => absurd rfl hne))
          exact kn8 hla ((c02.nil c3).nil w.chg) fun h6 c6 => And.intro rfl c6
        | ok qE =>
          obtain ⟨q, E⟩ := qE
          obtain ⟨vq, lv, rfl, ⟨ra, rn, rc, rfl, sl, fr⟩, hsl, hfr⟩ := hr
          obtain ⟨hq, hE, S', hS⟩ := hfi q E rfl
          have hap := all_apply hS
          obtain ⟨la, lc, rfl, _⟩ := hsl.form
          intro b9 h4 g4
          have w := (St.start h3).new g4
          refine w.st1 0 rfl rfl rfl rfl fun h5 w => ?_
          refine w.ld1 0 rfl rfl ?_
          refine And.intro rfl (And.intro (fun he => absurd he hq) (fun _ => ?_))
          have c25 := c3.nil w.chg
          refine call_ret (ApplyG_calls (kr.ext c25) hW s8.few.ins (fun h' hc => (hsl.ext w.chg).chg hc fun b hb => by have := hfr b hb; simp; omega) (by omega)) ?_
          rintro _ h6 ⟨rfl, c', m', kr', hs', in', c6⟩
          rw [hap]
          refine And.intro rfl (And.intro (fun _ => ?_) (fun hne => absurd rfl hne))
          refine And.intro rfl (And.intro (fun _ => ?_) (fun hne => absurd rfl hne))
          exact kn8 hla ((c02.nil c25).fresh c6 (by simp; omega)) fun h7 c7 => And.intro rfl c7

end Go.Proofs.YtgmkldaonkbjgaaGreatDoor
namespace Go.Proofs.YtgmkldaonkbjgaaGreatDoor
open Go Go.Sx Go.ChangeShapes Go.WideShapes Go.ChangeAt Go.RowKit

theorem own : ownKnob Tryz.prog.godebug = none := by kernel_rfl
theorem laidOut : laidOutB Tryz.prog = true := by kernel_rfl

def tab32 : List Int := [0, 1, 28, 2, 29, 14, 24, 3, 30, 22, 20, 15, 25, 17, 4, 8, 31, 27, 13, 23, 21, 19, 16, 7, 26, 12, 18, 6, 11, 5, 10, 9]
def tab64 : List Int := [0, 1, 56, 2, 57, 49, 28, 3, 61, 58, 42, 50, 38, 29, 17, 4, 62, 47, 59, 36, 45, 43, 51, 22, 53, 39, 33, 30, 24, 18, 12, 5, 63, 55, 48, 27, 60, 41, 37, 16, 46, 35, 44, 21, 52, 32, 23, 11, 54, 26, 40, 15, 34, 20, 31, 10, 25, 14, 19, 9, 13, 8, 7, 6]
def pow10 : List Int := [1, 10, 100, 1000, 10000, 100000, 1000000, 10000000, 100000000, 1000000000, 10000000000, 100000000000, 1000000000000, 10000000000000, 100000000000000, 1000000000000000, 10000000000000000, 100000000000000000, 1000000000000000000, 10000000000000000000]
def wordRange : ByteArray := ⟨#[118, 97, 108, 117, 101, 32, 111, 117, 116, 32, 111, 102, 32, 114, 97, 110, 103, 101]⟩
def wordSyntax : ByteArray := ⟨#[105, 110, 118, 97, 108, 105, 100, 32, 115, 121, 110, 116, 97, 120]⟩
def laid5 : List (String × DataW Unit) := [("math/bits.deBruijn32tab", Rows.laid_math_bits_deBruijn32tab), ("math/bits.deBruijn64tab", Rows.laid_math_bits_deBruijn64tab), ("internal/strconv.uint64pow10", Rows.laid_internal_strconv_uint64pow10), ("strconv.ErrRange", Rows.laid_strconv_ErrRange), ("strconv.ErrSyntax", Rows.laid_strconv_ErrSyntax)]

def putTab (vs : Array Value) : Obj → Obj
  | .cells _ t frozen => .cells vs t frozen
  | o => o
noncomputable def bare (os : Os) : World := World.holding Tryz.prog os ⟨#[], #[], []⟩
noncomputable def laidWorld (os : Os) : World :=
  { bare os with heap := ((((((bare os).heap.modify 2 (putTab (tab32.map fun z => Value.int .u8 z).toArray)).modify 3 (putTab (tab64.map fun z => Value.int .u8 z).toArray)).modify 1 (putTab (pow10.map fun z => Value.int .u64 z).toArray)).modify 5
    (putTab #[.iface 246 (.pointer (some ⟨(bare os).heap.size, 0, none⟩))])).modify 4 (putTab #[.iface 246 (.pointer (some ⟨(bare os).heap.size + 1, 0, none⟩))])) ++
    #[.cells #[.string wordRange] 248 (0, 0), .cells #[.string wordSyntax] 248 (0, 0)] }
theorem laid_met (os : Os) (args : Array Value) : laidMet Tryz.prog laid5 ((laidWorld os).forCall (fun _ _ => 0) ⟨#[], args, []⟩).memory :=
  laidMet_of_run' 8 (by kernel_rfl) (by kernel_rfl)

theorem int_arg {P : Program} {W : World} {b0 : Nat} {r : Reach} {t : TypeId} {v : Value} (ht : P.underlying t = some (.int .i64)) (hval : Value.okWide P W r b0 t v) :
    ∃ n, v = .int .i64 n := by
  simp only [Value.okWide, Cell.okWide, Cell.ok, ht] at hval
  split at hval <;> simp_all

end Go.Proofs.YtgmkldaonkbjgaaGreatDoor
