/-
  Layer 7: what the effects' rules do to a thing (printed by gendo.py).
  Layer 7: a keyspace behind an effect: plain laws.
  Layer 7: keys' one, whatever the effect (printed by genone.py).
  Layer 7: keys' one, whatever the effect, from its beginning (printed by genone2.py).
  Layer 7: keys' Apply, whatever the effects.
  The simplified code of this seat's functions, and that it is what the program's code comes to. Printed by a program (wip/print.lean).
  Layer 7: the reference's pairs, members, ranks (printed by genref.py).
  Layer 7: the reference's uses, kind, Count, Drop (printed by genuse.py).
  Layer 7: the reference's done (printed by gendone.py).
  Layer 7: a list of things behind an effect: plain laws.
  Layer 7: what stands there and is not gone: Get, the reference's Names.
  Layer 7: keys' Names and Size.
  The simplified code of this seat's functions, and that it is what the program's code comes to. Printed by a program (wip/print.lean).
  Layer 8: what is too much; what a gone thing costs.
  The simplified code of this seat's functions, and that it is what the program's code comes to. Printed by a program (wip/print.lean).
  Layer 8: a command that is asked: giving up, its effects, its arguments.
  Layer 8: a command that is asked: a text, a number of its arguments, a text that is put.
  Contracts of the library's functions, laid at this dump. Printed by a program (mklay.py).
  Layer 8: which texts are numbers, in plain words: what the library's parsing and printing come to is what the document's reading comes to.
  Layer 8: a text's number, by the program: the library's ParseInt and FormatInt by their contracts.
  Layer 8: a text is put; an argument's number; sums; replies.
  Layer 8: replies, sums, an argument's number; a number is added to one.
  The state of a walk: what stands in blocks of the call's own, each apart from the others.
  Layer 8: a command that is asked, as what stands in a walk.
  Layer 8: GET, STRLEN, INCR, DECR, INCRBY, APPEND.
  Layer 8: INCR, DECR, INCRBY, APPEND.
  Layer 8: what the commands come to; plain.
  Layer 9: what the commands of things with items come to; plain.
  Layer 9: a command that is asked of a thing: its block as an entry; giving up.
  The simplified code of this seat's functions, and that it is what the program's code comes to. Printed by a program (wip/print.lean).
  The simplified code of this seat's functions, and that it is what the program's code comes to. Printed by a program (wip/print.lean).
  The simplified code of this seat's functions, and that it is what the program's code comes to. Printed by a program (wip/print.lean).
  The simplified code of this seat's functions, and that it is what the program's code comes to. Printed by a program (wip/print.lean).
  Layer 9: giving up; how many arguments; the thing under the key; a number; effects. (Not built yet: written from the printed code.)
-/
import Derived.Test.YtjnijlnmbjjgpaaGreatDoorProg
import Derived.Shelf.Strconv.ParseIntPublic10
import Derived.Shelf.Strconv.Itoa4
import Derived.Lib.ParseIntB
import Derived.Lib.ItoaNum
import Derived.Test.YtjnijlnmbjjgpaaGreatDoorZE9C
namespace Go.Proofs.YtjnijlnmbjjgpaaGreatDoor
open Go Go.Sx C
theorem _root_.Go.Sx.Chg.step {S U : List Nat} {a b c : Heap} (c1 : Chg U a b) (c2 : Chg S b c) (hs : ∀ k ∈ S, k < a.size → k ∈ U) : Chg U a c := c1.trans c2 (fun _ h => h) hs
def DoPost (t' : Thing) (n : Int) (tb : Nat) (pv lv rv : Value) (h : Heap) (r : Value) (h' : Heap) : Prop :=
 r = .int .i64 n ∧ (n = 0 → ∃ ws, Blk h' tb ws ∧ TH h' ws t' ∧ ∀ v ∈ ws, ∀ b ∈ vblk v, b ∈ bl3 pv lv rv ∨ h.size ≤ b) ∧ Chg (tb :: bl3 pv lv rv) h h'
theorem do_end {t' : Thing} {h h' : Heap} {tb : Nat} {pv lv rv pv' lv' rv' : Value} (B : Blk h' tb (cellsT t' pv' lv' rv')) (sp : SL encP h' pv' t'.pairs) (sl : SL encS h' lv' t'.list) (sr : SL encR h' rv' t'.ranks)
  (hb : ∀ b ∈ bl3 pv' lv' rv', b ∈ bl3 pv lv rv ∨ h.size ≤ b) (c : Chg (tb :: bl3 pv lv rv) h h') : DoPost t' 0 tb pv lv rv h (.int .i64 0) h' := by
 refine ⟨rfl, fun _ => ⟨_, B, ⟨_, _, _, rfl, sp, sl, sr⟩, fun v hv b hvb => ?_⟩, c⟩
 simp only [cellsT, List.mem_cons, List.not_mem_nil, or_false] at hv
 rcases hv with rfl | rfl | rfl | rfl | rfl | rfl | rfl
 ·exact absurd (show b ∈ ([] : List Nat) from hvb) (by simp)
 ·exact absurd (show b ∈ ([] : List Nat) from hvb) (by simp)
 ·exact hb b (by simp [bl3, hvb])
 ·exact hb b (by simp [bl3, hvb])
 ·exact hb b (by simp [bl3, hvb])
 ·exact absurd (show b ∈ ([] : List Nat) from hvb) (by simp)
 ·exact absurd (show b ∈ ([] : List Nat) from hvb) (by simp)
theorem do_no {t' : Thing} {n : Int} {h h' : Heap} {tb : Nat} {pv lv rv : Value} (hn : n ≠ 0) (c : Chg (tb :: bl3 pv lv rv) h h') : DoPost t' n tb pv lv rv h (.int .i64 n) h' := ⟨rfl, fun e => absurd e hn, c⟩
def DoOK (g : Nat) (t : Thing) (e : Eff) : Prop := ∀ (h : Heap) (tb : Nat) (pv lv rv : Value), Blk h tb (cellsT t pv lv rv) → TO h pv lv rv t → tb ∉ bl3 pv lv rv →
 CallsH Tryz.prog g [ptr tb, .agg ⟨encD e⟩] h (Ret (DoPost (doneT t e).1 (doneT t e).2 tb pv lv rv h))
theorem bl3_nil {h : Heap} {pv lv rv : Value} : ∀ b ∈ bl3 (.slice none 0 0) (.slice none 0 0) (.slice none 0 0), b ∈ bl3 pv lv rv ∨ h.size ≤ b := by
 intro b hb
 exact absurd (show b ∈ ([] : List Nat) from hb) (by simp)
theorem bl3_self {h : Heap} {pv lv rv : Value} : ∀ b ∈ bl3 pv lv rv, b ∈ bl3 pv lv rv ∨ h.size ≤ b := fun _ hb => .inl hb
theorem bl3_l {h : Heap} {pv lv rv lv' : Value} (hl : ∀ b ∈ vblk lv', b ∈ vblk lv ∨ h.size ≤ b) : ∀ b ∈ bl3 pv lv' rv, b ∈ bl3 pv lv rv ∨ h.size ≤ b := by
 intro b hb
 simp only [bl3, List.mem_append] at hb ⊢
 rcases hb with hb | hb | hb
 ·exact .inl (.inl hb)
 ·rcases hl b hb with h | h
  ·exact .inl (.inr (.inl h))
  ·exact .inr h
 ·exact .inl (.inr (.inr hb))
theorem bl3_p {h : Heap} {pv lv rv pv' : Value} (hl : ∀ b ∈ vblk pv', b ∈ vblk pv ∨ h.size ≤ b) : ∀ b ∈ bl3 pv' lv rv, b ∈ bl3 pv lv rv ∨ h.size ≤ b := by
 intro b hb
 simp only [bl3, List.mem_append] at hb ⊢
 rcases hb with hb | hb
 ·rcases hl b hb with h | h
  ·exact .inl (.inl h)
  ·exact .inr h
 ·exact .inl (.inr hb)
theorem bl3_r {h : Heap} {pv lv rv rv' : Value} (hl : ∀ b ∈ vblk rv', b ∈ vblk rv ∨ h.size ≤ b) : ∀ b ∈ bl3 pv lv rv', b ∈ bl3 pv lv rv ∨ h.size ≤ b := by
 intro b hb
 simp only [bl3, List.mem_append] at hb ⊢
 rcases hb with hb | hb | hb
 ·exact .inl (.inl hb)
 ·exact .inl (.inr (.inl hb))
 ·rcases hl b hb with h | h
  ·exact .inl (.inr (.inr h))
  ·exact .inr h
theorem drop_do {t : Thing} {e : Eff} (hop : e.op = 1) (gd : TGood t) : DoOK 185 t e := by
 have ed : doneT t e = (zeroT, 0) := by unfold doneT; simp [hop]
 intro h tb pv lv rv T0 o0 hn
 rw [ed]
 have lens := gd.lens
 have lp := lens.p
 have ll := lens.l
 have lr := lens.r
 have hn' : tb ∉ vblk pv ∧ tb ∉ vblk lv ∧ tb ∉ vblk rv := by simpa [bl3] using hn
 have ltb := T0.lt
 refine f185_calls (by simp) ?_
 intro b3 h1 g1
 have c1 := g1.chg
 have i3 := g1.id
 have s1 := g1.size
 have B31 : Blk h1 b3 (encD e) := g1.blk
 have T1 := T0.chg c1 (by simp)
 have o1 := o0.ext c1
 have z1 : Chg (tb :: bl3 pv lv rv) h h1 := ((Chg.refl h).mono (by simp)).step c1 (by simp)
 refine Ei _ (Ai T1 (Ai (by simp [cellsT]) (Ai rfl (Ai (thing_one (t := zeroT) (h := h1) zero_TH) ?_))))
 intro h2 p2
 exact do_end (t' := zeroT) (show Blk h2 tb (cellsT zeroT _ _ _) from p2.blk) SL.nil SL.nil SL.nil bl3_nil (z1.step p2.chg (by simp))
theorem text_do {t : Thing} {e : Eff} (hop : e.op = 2) (gd : TGood t) : DoOK 186 t e := by
 have ed : doneT t e = (textT e.text, 0) := by unfold doneT; simp [hop]
 intro h tb pv lv rv T0 o0 hn
 rw [ed]
 have lens := gd.lens
 have lp := lens.p
 have ll := lens.l
 have lr := lens.r
 have hn' : tb ∉ vblk pv ∧ tb ∉ vblk lv ∧ tb ∉ vblk rv := by simpa [bl3] using hn
 have ltb := T0.lt
 refine f186_calls (by simp) ?_
 intro b3 h1 g1
 have c1 := g1.chg
 have i3 := g1.id
 have s1 := g1.size
 have B31 : Blk h1 b3 (encD e) := g1.blk
 have T1 := T0.chg c1 (by simp)
 have o1 := o0.ext c1
 have z1 : Chg (tb :: bl3 pv lv rv) h h1 := ((Chg.refl h).mono (by simp)).step c1 (by simp)
 refine Ei _ (Ai (cell_blk B31 rfl) ?_)
 refine Ei _ (Ai T1 (Ai (by simp [cellsT]) (Ai rfl (Ai (thing_one (t := textT e.text) (h := h1) text_TH) ?_))))
 intro h2 p2
 exact do_end (t' := textT e.text) (show Blk h2 tb (cellsT (textT e.text) _ _ _) from p2.blk) SL.nil SL.nil SL.nil bl3_nil (z1.step p2.chg (by simp))
theorem until_do {t : Thing} {e : Eff} (hop : e.op = 3) (gd : TGood t) : DoOK 187 t e := by
 have ed : doneT t e = ({ t with hasU := true, unt := e.num }, 0) := by unfold doneT; simp [hop]
 intro h tb pv lv rv T0 o0 hn
 rw [ed]
 have lens := gd.lens
 have lp := lens.p
 have ll := lens.l
 have lr := lens.r
 have hn' : tb ∉ vblk pv ∧ tb ∉ vblk lv ∧ tb ∉ vblk rv := by simpa [bl3] using hn
 have ltb := T0.lt
 refine f187_calls (by simp) ?_
 intro b3 h1 g1
 have c1 := g1.chg
 have i3 := g1.id
 have s1 := g1.size
 have B31 : Blk h1 b3 (encD e) := g1.blk
 have T1 := T0.chg c1 (by simp)
 have o1 := o0.ext c1
 have z1 : Chg (tb :: bl3 pv lv rv) h h1 := ((Chg.refl h).mono (by simp)).step c1 (by simp)
 have fin : ∀ h2 h3, Put h1 h2 tb (cellsT { t with hasU := true } pv lv rv) → Put h2 h3 tb (cellsT { t with hasU := true, unt := e.num } pv lv rv) → DoPost { t with hasU := true, unt := e.num } 0 tb pv lv rv h (.int .i64 0) h3 := by
  intro h2 h3 p2 p3
  have p := p2.trans p3
  have o3 := o1.chg p.chg (fun b hb => by simp; rintro rfl; exact hn hb)
  exact do_end p3.blk o3.p.sl o3.l.sl o3.r.sl bl3_self (z1.step p.chg (by simp))
 refine Ai ?_ ?_
 ·refine Ei _ (Ai (cell_blk B31 rfl) ?_)
  refine Ei _ (Ai T1 (Ai (by simp [cellsT]) (Ai rfl (Ai (ones1 rfl) ?_))))
  intro h2 p2
  refine Ei _ (Ai p2.blk (Ai (by show 0 + 6 + 1 ≤ (cellsT { t with hasU := true } pv lv rv).length; simp [cellsT]) (Ai rfl (Ai (ones1 rfl) ?_))))
  intro h3 p3
  exact fin h2 h3 p2 p3
 ·refine Ei _ (Ai T1 (Ai (by simp [cellsT]) (Ai rfl (Ai (ones1 rfl) ?_))))
  intro h2 p2
  refine Ei _ (Ai (cell_blk (B31.chg p2.chg (by simp; omega)) rfl) ?_)
  refine Ei _ (Ai p2.blk (Ai (by show 0 + 6 + 1 ≤ (cellsT { t with hasU := true } pv lv rv).length; simp [cellsT]) (Ai rfl (Ai (ones1 rfl) ?_))))
  intro h3 p3
  exact fin h2 h3 p2 p3
theorem keep_do {t : Thing} {e : Eff} (hop : e.op = 4) (gd : TGood t) : DoOK 188 t e := by
 have ed : doneT t e = ({ t with hasU := false, unt := 0 }, 0) := by unfold doneT; simp [hop]
 intro h tb pv lv rv T0 o0 hn
 rw [ed]
 have lens := gd.lens
 have lp := lens.p
 have ll := lens.l
 have lr := lens.r
 have hn' : tb ∉ vblk pv ∧ tb ∉ vblk lv ∧ tb ∉ vblk rv := by simpa [bl3] using hn
 have ltb := T0.lt
 refine f188_calls (by simp) ?_
 intro b3 h1 g1
 have c1 := g1.chg
 have i3 := g1.id
 have s1 := g1.size
 have B31 : Blk h1 b3 (encD e) := g1.blk
 have T1 := T0.chg c1 (by simp)
 have o1 := o0.ext c1
 have z1 : Chg (tb :: bl3 pv lv rv) h h1 := ((Chg.refl h).mono (by simp)).step c1 (by simp)
 refine Ei _ (Ai T1 (Ai (by simp [cellsT]) (Ai rfl (Ai (ones1 rfl) ?_))))
 intro h2 p2
 refine Ei _ (Ai p2.blk (Ai (by show 0 + 6 + 1 ≤ (cellsT { t with hasU := false } pv lv rv).length; simp [cellsT]) (Ai rfl (Ai (ones1 rfl) ?_))))
 intro h3 p3
 have p := p2.trans p3
 have o3 := o1.chg p.chg (fun b hb => by simp; rintro rfl; exact hn hb)
 exact do_end (show Blk h3 tb (cellsT { t with hasU := false, unt := 0 } pv lv rv) from p3.blk) o3.p.sl o3.l.sl o3.r.sl bl3_self (z1.step p.chg (by simp))
theorem head_do {t : Thing} {e : Eff} (hop : e.op = 7) (gd : TGood t) : DoOK 191 t e := by
 have ed : doneT t e = ({ t with list := e.text :: t.list }, 0) := by unfold doneT; simp [hop]
 intro h tb pv lv rv T0 o0 hn
 rw [ed]
 have lens := gd.lens
 have lp := lens.p
 have ll := lens.l
 have lr := lens.r
 have hn' : tb ∉ vblk pv ∧ tb ∉ vblk lv ∧ tb ∉ vblk rv := by simpa [bl3] using hn
 have ltb := T0.lt
 refine f191_calls (by simp) ?_
 intro b3 h1 g1
 have c1 := g1.chg
 have i3 := g1.id
 have s1 := g1.size
 have B31 : Blk h1 b3 (encD e) := g1.blk
 have T1 := T0.chg c1 (by simp)
 have o1 := o0.ext c1
 have z1 : Chg (tb :: bl3 pv lv rv) h h1 := ((Chg.refl h).mono (by simp)).step c1 (by simp)
 refine Ei _ (Ai (cell_blk T1 rfl) (Ei _ (Ai (cell_blk B31 rfl) ?_)))
 intro b2 h2 g2
 have c2 := g2.chg
 have i2 := g2.id
 have s2 := g2.size
 have o2 := o1.ext c2
 have T2 := T1.chg c2 (by simp)
 have z2 := z1.step c2 (by simp)
 have lb := o1.l.lt
 refine call_ret (insS_calls (i := 0) (x := e.text) o2.l (by omega) (Nat.zero_le _) g2.blk (fun hb => by have := lb b2 hb; omega)) ?_
 rintro r5 h5 ⟨O5, c5, hb5⟩
 have S5 : SL encS h5 r5 (e.text :: t.list) := O5.sl
 have T5 := T2.chg c5 hn'.2.1
 have o2p := o2.p
 have o2r := o2.r
 have o5p := o2p.chg c5 (fun b hb => o0.pl b hb)
 have o5r := o2r.chg c5 (fun b hb => fun hp => o0.lr b hp hb)
 have z5 := z2.step c5 (fun k hk _ => by simp [bl3, hk])
 have hb5 : ∀ b ∈ vblk r5, b ∈ vblk lv ∨ h.size ≤ b := fun b hb => by
  rcases hb5 b hb with h | h
  ·exact .inl h
  ·exact .inr (by omega)
 obtain ⟨a5, k5, rfl, _⟩ := S5.form
 have nr5 : tb ∉ vblk (.slice a5 (e.text :: t.list).length k5) := fun hm => by
  rcases hb5 tb hm with h | h
  ·exact hn'.2.1 h
  ·omega
 refine Ei _ (Ai T5 (Ai (by simp [cellsT]) (Ai rfl (Ai (ones1 rfl) ?_))))
 intro h6 p6
 exact do_end (show Blk h6 tb (cellsT { t with list := (e.text :: t.list) } pv (.slice a5 (e.text :: t.list).length k5) rv) from p6.blk) (o5p.sl.chg p6.chg (by intro b hb; simp; rintro rfl; exact hn'.1 hb)) (S5.chg p6.chg (by intro b hb; simp; rintro rfl; exact nr5 hb)) (o5r.sl.chg p6.chg (by intro b hb; simp; rintro rfl; exact hn'.2.2 hb)) (bl3_l hb5) (z5.step p6.chg (by simp))
theorem tail_do {t : Thing} {e : Eff} (hop : e.op = 8) (gd : TGood t) : DoOK 193 t e := by
 have ed : doneT t e = ({ t with list := t.list ++ [e.text] }, 0) := by unfold doneT; simp [hop]
 intro h tb pv lv rv T0 o0 hn
 rw [ed]
 have lens := gd.lens
 have lp := lens.p
 have ll := lens.l
 have lr := lens.r
 have hn' : tb ∉ vblk pv ∧ tb ∉ vblk lv ∧ tb ∉ vblk rv := by simpa [bl3] using hn
 have ltb := T0.lt
 refine f193_calls (by simp) ?_
 intro b3 h1 g1
 have c1 := g1.chg
 have i3 := g1.id
 have s1 := g1.size
 have B31 : Blk h1 b3 (encD e) := g1.blk
 have T1 := T0.chg c1 (by simp)
 have o1 := o0.ext c1
 have z1 : Chg (tb :: bl3 pv lv rv) h h1 := ((Chg.refl h).mono (by simp)).step c1 (by simp)
 refine Ei _ (Ai (cell_blk T1 rfl) (Ei _ (Ai (cell_blk B31 rfl) ?_)))
 intro b2 h2 g2
 have c2 := g2.chg
 have i2 := g2.id
 have s2 := g2.size
 have o2 := o1.ext c2
 have T2 := T1.chg c2 (by simp)
 have z2 := z1.step c2 (by simp)
 obtain ⟨la, lc, hlv, _⟩ := o2.l.form
 have T2' := T2
 rw [hlv] at o2 hn' T2'
 have o2l := o2.l
 have B2 : Blk h2 b2 (encS e.text) := g2.blk
 subst hlv
 refine app_own encS_len encS_one rfl o2l (SL.one encS_len B2) (by simp; omega) ?_
 intro r5 h5 O5 c5 hb5
 have S5 : SL encS h5 r5 (t.list ++ [e.text]) := O5.sl
 have c5 : Chg (vblk (.slice la t.list.length lc)) h2 h5 := c5
 have T5 := T2.chg c5 hn'.2.1
 have o2p := o2.p
 have o2r := o2.r
 have o5p := o2p.chg c5 (fun b hb => o0.pl b hb)
 have o5r := o2r.chg c5 (fun b hb => fun hp => o0.lr b hp hb)
 have z5 := z2.step c5 (fun k hk _ => by simp [bl3, hk])
 have hb5 : ∀ b ∈ vblk r5, b ∈ vblk (.slice la t.list.length lc) ∨ h.size ≤ b := fun b hb => by
  rcases hb5 b hb with h | h
  ·exact .inl h
  ·exact .inr (by omega)
 obtain ⟨a5, k5, rfl, _⟩ := S5.form
 have nr5 : tb ∉ vblk (.slice a5 (t.list ++ [e.text]).length k5) := fun hm => by
  rcases hb5 tb hm with h | h
  ·exact hn'.2.1 h
  ·omega
 refine Ei _ (Ai T5 (Ai (by simp [cellsT]) (Ai rfl (Ai (ones1 rfl) ?_))))
 intro h6 p6
 exact do_end (show Blk h6 tb (cellsT { t with list := (t.list ++ [e.text]) } pv (.slice a5 (t.list ++ [e.text]).length k5) rv) from p6.blk) (o5p.sl.chg p6.chg (by intro b hb; simp; rintro rfl; exact hn'.1 hb)) (S5.chg p6.chg (by intro b hb; simp; rintro rfl; exact nr5 hb)) (o5r.sl.chg p6.chg (by intro b hb; simp; rintro rfl; exact hn'.2.2 hb)) (bl3_l hb5) (z5.step p6.chg (by simp))
theorem unhead_do {t : Thing} {e : Eff} (hop : e.op = 9) (gd : TGood t) (hne : t.list ≠ []) : DoOK 194 t e := by
 have ed : doneT t e = ({ t with list := t.list.tail }, 0) := by unfold doneT; simp [hop]
 intro h tb pv lv rv T0 o0 hn
 rw [ed]
 have lens := gd.lens
 have lp := lens.p
 have ll := lens.l
 have lr := lens.r
 have hn' : tb ∉ vblk pv ∧ tb ∉ vblk lv ∧ tb ∉ vblk rv := by simpa [bl3] using hn
 have ltb := T0.lt
 refine f194_calls (by simp) ?_
 intro b3 h1 g1
 have c1 := g1.chg
 have i3 := g1.id
 have s1 := g1.size
 have B31 : Blk h1 b3 (encD e) := g1.blk
 have T1 := T0.chg c1 (by simp)
 have o1 := o0.ext c1
 have z1 : Chg (tb :: bl3 pv lv rv) h h1 := ((Chg.refl h).mono (by simp)).step c1 (by simp)
 have lpos : 0 < t.list.length := List.length_pos_iff.2 hne
 obtain ⟨la, lc, rfl, _⟩ := o1.l.form
 refine Ei _ (Ai (cell_blk T1 rfl) ?_)
 refine SL.slc (lo := 1) (hi := t.list.length) encS_len o1.l.sl (by omega) (Nat.le_refl _) ?_
 intro a5 hab S5
 have el : (t.list.drop 1).take (t.list.length - 1) = t.list.tail := by
  rw [List.take_of_length_le (by simp)]
  simp
 have ell : t.list.length - 1 = t.list.tail.length := by simp
 rw [el] at S5
 have T5 := T1
 have o5p := o1.p
 have o5r := o1.r
 have z5 := z1
 rw [ell] at S5 ⊢
 have hb5 : ∀ b ∈ vblk (.slice a5 t.list.tail.length (lc - 1)), b ∈ vblk (.slice la t.list.length lc) ∨ h.size ≤ b := fun b hb => by
  have hb : b ∈ ablk a5 := hb
  rw [hab] at hb
  exact .inl hb
 obtain ⟨k5, hk5⟩ : ∃ k5, k5 = lc - 1 := ⟨_, rfl⟩
 rw [← hk5] at S5 hb5 ⊢
 have nr5 : tb ∉ vblk (.slice a5 t.list.tail.length k5) := fun hm => by
  rcases hb5 tb hm with h | h
  ·exact hn'.2.1 h
  ·omega
 refine Ei _ (Ai T5 (Ai (by simp [cellsT]) (Ai rfl (Ai (ones1 rfl) ?_))))
 intro h6 p6
 exact do_end (show Blk h6 tb (cellsT { t with list := t.list.tail } pv (.slice a5 t.list.tail.length k5) rv) from p6.blk) (o5p.sl.chg p6.chg (by intro b hb; simp; rintro rfl; exact hn'.1 hb)) (S5.chg p6.chg (by intro b hb; simp; rintro rfl; exact nr5 hb)) (o5r.sl.chg p6.chg (by intro b hb; simp; rintro rfl; exact hn'.2.2 hb)) (bl3_l hb5) (z5.step p6.chg (by simp))
theorem untail_do {t : Thing} {e : Eff} (hop : e.op = 10) (gd : TGood t) (hne : t.list ≠ []) : DoOK 195 t e := by
 have ed : doneT t e = ({ t with list := t.list.dropLast }, 0) := by unfold doneT; simp [hop]
 intro h tb pv lv rv T0 o0 hn
 rw [ed]
 have lens := gd.lens
 have lp := lens.p
 have ll := lens.l
 have lr := lens.r
 have hn' : tb ∉ vblk pv ∧ tb ∉ vblk lv ∧ tb ∉ vblk rv := by simpa [bl3] using hn
 have ltb := T0.lt
 refine f195_calls (by simp) ?_
 intro b3 h1 g1
 have c1 := g1.chg
 have i3 := g1.id
 have s1 := g1.size
 have B31 : Blk h1 b3 (encD e) := g1.blk
 have T1 := T0.chg c1 (by simp)
 have o1 := o0.ext c1
 have z1 : Chg (tb :: bl3 pv lv rv) h h1 := ((Chg.refl h).mono (by simp)).step c1 (by simp)
 have lpos : 0 < t.list.length := List.length_pos_iff.2 hne
 obtain ⟨la, lc, rfl, _⟩ := o1.l.form
 refine Ei _ (Ai (cell_blk T1 rfl) (Ei _ (Ai (cell_blk T1 rfl) ?_)))
 refine Ai rfl (fun z hz => ?_)
 have hz := sub_in hz (by omega) (by omega)
 have hz : z = ((t.list.length - 1 : Nat) : Int) := by omega
 subst hz
 refine SL.slc (lo := 0) (hi := t.list.length - 1) encS_len o1.l.sl (Nat.zero_le _) (by omega) ?_
 intro a5 hab S5
 have el : (t.list.drop 0).take (t.list.length - 1 - 0) = t.list.dropLast := by
  rw [List.drop_zero, List.dropLast_eq_take]; simp
 have ell : t.list.length - 1 - 0 = t.list.dropLast.length := by simp
 rw [el] at S5
 have T5 := T1
 have o5p := o1.p
 have o5r := o1.r
 have z5 := z1
 rw [ell] at S5 ⊢
 have hb5 : ∀ b ∈ vblk (.slice a5 t.list.dropLast.length (lc - 0)), b ∈ vblk (.slice la t.list.length lc) ∨ h.size ≤ b := fun b hb => by
  have hb : b ∈ ablk a5 := hb
  rw [hab] at hb
  exact .inl hb
 obtain ⟨k5, hk5⟩ : ∃ k5, k5 = lc - 0 := ⟨_, rfl⟩
 rw [← hk5] at S5 hb5 ⊢
 have nr5 : tb ∉ vblk (.slice a5 t.list.dropLast.length k5) := fun hm => by
  rcases hb5 tb hm with h | h
  ·exact hn'.2.1 h
  ·omega
 refine Ei _ (Ai T5 (Ai (by simp [cellsT]) (Ai rfl (Ai (ones1 rfl) ?_))))
 intro h6 p6
 exact do_end (show Blk h6 tb (cellsT { t with list := t.list.dropLast } pv (.slice a5 t.list.dropLast.length k5) rv) from p6.blk) (o5p.sl.chg p6.chg (by intro b hb; simp; rintro rfl; exact hn'.1 hb)) (S5.chg p6.chg (by intro b hb; simp; rintro rfl; exact nr5 hb)) (o5r.sl.chg p6.chg (by intro b hb; simp; rintro rfl; exact hn'.2.2 hb)) (bl3_l hb5) (z5.step p6.chg (by simp))
theorem set_cells {α : Type} {enc : α → List Value} (l : List α) (n : Nat) (hn : n < l.length) (x : α) (rest : List Value) :
  l.flatMap enc ++ rest = (l.take n).flatMap enc ++ (enc l[n] ++ ((l.drop (n + 1)).flatMap enc ++ rest)) ∧ (l.set n x).flatMap enc ++ rest = (l.take n).flatMap enc ++ (enc x ++ ((l.drop (n + 1)).flatMap enc ++ rest)) := by
 have e := split_k hn
 constructor
 ·have e2 : l.flatMap enc = (l.take n ++ l[n] :: l.drop (n + 1)).flatMap enc := congrArg (fun q => q.flatMap enc) e
  rw [e2, List.flatMap_append, List.flatMap_cons, List.append_assoc, List.append_assoc]
 ·rw [List.set_eq_take_append_cons_drop, if_pos hn]
  simp
theorem at_do {t : Thing} {e : Eff} (hop : e.op = 11) (gd : TGood t) : DoOK 196 t e := by
 have ed : doneT t e = (if 0 ≤ e.num ∧ e.num < t.list.length then ({ t with list := t.list.set e.num.toNat e.text }, 0) else (t, 4)) := by unfold doneT; simp [hop]
 intro h tb pv lv rv T0 o0 hn
 rw [ed]
 have lens := gd.lens
 have lp := lens.p
 have ll := lens.l
 have lr := lens.r
 have hn' : tb ∉ vblk pv ∧ tb ∉ vblk lv ∧ tb ∉ vblk rv := by simpa [bl3] using hn
 have ltb := T0.lt
 refine f196_calls (by simp) ?_
 intro b3 h1 g1
 have c1 := g1.chg
 have i3 := g1.id
 have s1 := g1.size
 have B31 : Blk h1 b3 (encD e) := g1.blk
 have T1 := T0.chg c1 (by simp)
 have o1 := o0.ext c1
 have z1 : Chg (tb :: bl3 pv lv rv) h h1 := ((Chg.refl h).mono (by simp)).step c1 (by simp)
 have bad : ¬ (0 ≤ e.num ∧ e.num < t.list.length) → DoPost (if 0 ≤ e.num ∧ e.num < t.list.length then (({ t with list := t.list.set e.num.toNat e.text }, 0) : Thing × Int) else (t, 4)).1 (if 0 ≤ e.num ∧ e.num < t.list.length then (({ t with list := t.list.set e.num.toNat e.text }, 0) : Thing × Int) else (t, 4)).2 tb pv lv rv h (.int .i64 4) h1 := by
  intro hb
  rw [if_neg hb]
  exact do_no (n := 4) (by decide) z1
 refine Ei _ (Ai (cell_blk B31 rfl) ?_)
 refine Ai rfl (Ai (fun hneg => bad (by omega)) (fun hneg => ?_))
 obtain ⟨la, lc, rfl, _⟩ := o1.l.form
 refine Ei _ (Ai (cell_blk B31 rfl) (Ei _ (Ai (cell_blk T1 rfl) ?_)))
 refine Ai rfl (Ai (fun hbig => bad (by omega)) (fun hbig => ?_))
 have hin : 0 ≤ e.num ∧ e.num < t.list.length := by omega
 rw [if_pos hin]
 obtain ⟨n, hnn⟩ : ∃ n : Nat, e.num = n := ⟨e.num.toNat, by omega⟩
 have hnl : n < t.list.length := by omega
 have hnt : e.num.toNat = n := by omega
 obtain ⟨_, hopen⟩ := o1.l.open
 rcases hopen with ⟨_, e0, _⟩ | ⟨b, rfl, hle, rest, B, hbl⟩
 ·rw [e0] at hnl; exact absurd hnl (by simp)
 refine Ei _ (Ai (cell_blk T1 rfl) (Ei _ (Ai (cell_blk B31 rfl) (Ei _ (Ai (cell_blk B31 rfl) ?_)))))
 refine Ai hin.1 (Ai hin.2 ?_)
 obtain ⟨q1, q2⟩ := set_cells (enc := encS) t.list n hnl e.text rest
 rw [q1] at B
 refine Ei _ (Ai B (Ai ?_ (Ai rfl (Ai (ones1 rfl) ?_))))
 ·rw [hnt, ← q1, hbl]; omega
 intro h5 p5
 have zi := take_len encS_len t.list n (by omega)
 have e5 : splice ((t.list.take n).flatMap encS ++ (encS t.list[n] ++ ((t.list.drop (n + 1)).flatMap encS ++ rest))) (0 + e.num.toNat * 1) [.string e.text] = (t.list.set n e.text).flatMap encS ++ rest := by
  rw [q2, hnt, show 0 + n * 1 = ((t.list.take n).flatMap encS).length by rw [zi]; omega]
  exact splice_at _ _ _ _ rfl
 have P5 : Put h1 h5 b ((t.list.set n e.text).flatMap encS ++ rest) := by
  rw [← e5]; exact p5
 have O5 : OL encS 1 h5 (.slice (some ⟨b, 0, none⟩) t.list.length lc) (t.list.set n e.text) := by
  refine OL.mk (rest := rest) (by simp) (by simp; exact hle) P5.blk ?_
  rw [← hbl]
  simp only [List.length_append, flatMap_len encS_len, List.length_set]
 have c5 : Chg (vblk (.slice (some ⟨b, 0, none⟩) t.list.length lc)) h1 h5 := P5.chg
 have T5 := T1.chg c5 hn'.2.1
 have o1p := o1.p
 have o1r := o1.r
 have o5p := o1p.chg c5 (fun b hb => o0.pl b hb)
 have o5r := o1r.chg c5 (fun b hb => fun hp => o0.lr b hp hb)
 have z5 := z1.step c5 (fun k hk _ => by simp only [bl3, List.mem_cons, List.mem_append]; exact .inr (.inr (.inl hk)))
 rw [hnt]
 exact do_end (t' := { t with list := t.list.set n e.text }) (show Blk h5 tb (cellsT { t with list := t.list.set n e.text } _ _ _) from T5) o5p.sl O5.sl o5r.sl bl3_self z5
theorem add_do {t : Thing} {e : Eff} (hop : e.op = 12) (gd : TGood t) (hk : t.kind = 4) : DoOK 197 t e := by
 have ed : doneT t e = ({ t with list := putF (fun x => decide (x = e.name)) (fun x => sless e.name x) e.name t.list false }, 0) := by unfold doneT; simp [hop]
 intro h tb pv lv rv T0 o0 hn
 rw [ed]
 have lens := gd.lens
 have lp := lens.p
 have ll := lens.l
 have lr := lens.r
 have hn' : tb ∉ vblk pv ∧ tb ∉ vblk lv ∧ tb ∉ vblk rv := by simpa [bl3] using hn
 have ltb := T0.lt
 refine f197_calls (by simp) ?_
 intro b3 h1 g1
 have c1 := g1.chg
 have i3 := g1.id
 have s1 := g1.size
 have B31 : Blk h1 b3 (encD e) := g1.blk
 have T1 := T0.chg c1 (by simp)
 have o1 := o0.ext c1
 have z1 : Chg (tb :: bl3 pv lv rv) h h1 := ((Chg.refl h).mono (by simp)).step c1 (by simp)
 have hs := gd.ls hk
 refine Ei _ (Ai (cell_blk T1 rfl) (Ei _ (Ai (cell_blk B31 rfl) ?_)))
 refine call_ret (bynS_calls e.name o1.l.sl (by omega) hs) ?_
 rintro _ h2 ⟨⟨k, rfl, hc⟩, c2⟩
 have s2 := c2.size
 have o2 := o1.ext c2
 have T2 := T1.chg c2 (by simp)
 have B32 := B31.chg c2 (by simp)
 have z2 := z1.step c2 (by simp)
 cases hf : (t.list[k]?).any fun x => decide (x = e.name) with
 |true =>
  obtain ⟨hkl, hke, _⟩ := cut_there (nm := fun x => x) hs hc hf
  have ep : putF (fun x => decide (x = e.name)) (fun x => sless e.name x) e.name t.list false = t.list := by
   have h1 : putF (fun x => decide (x = e.name)) (fun x => sless e.name x) e.name t.list false = t.list.take k ++ e.name :: t.list.drop (k + 1) := put_there (nm := fun x => x) hs hc hf
   rw [h1]
   have := split_k hkl
   rw [show t.list[k] = e.name from hke] at this
   exact this.symm
  rw [ep]
  exact do_end (t' := { t with list := t.list }) (show Blk h2 tb (cellsT { t with list := t.list } pv lv rv) from T2) o2.p.sl o2.l.sl o2.r.sl bl3_self z2
 |false =>
  have ep : putF (fun x => decide (x = e.name)) (fun x => sless e.name x) e.name t.list false = t.list.take k ++ e.name :: t.list.drop k := put_none (nm := fun x => x) hs hc hf
  rw [ep]
  refine Ei _ (Ai (cell_blk T2 rfl) (Ei _ (Ai (cell_blk B32 rfl) ?_)))
  intro b4 h3 g3
  have c3 := g3.chg
  have i4 := g3.id
  have s3 := g3.size
  have o3 := o2.ext c3
  have T3 := T2.chg c3 (by simp)
  have z3 := z2.step c3 (by simp)
  have lb := o2.l.lt
  refine call_ret (insS_calls (x := e.name) o3.l (by omega) hc.le g3.blk (fun hb => by have := lb b4 hb; omega)) ?_
  rintro r5 h5 ⟨O5, c5, hb5⟩
  have S5 := O5.sl
  have T5 := T3.chg c5 hn'.2.1
  have o3p := o3.p
  have o3r := o3.r
  have o5p := o3p.chg c5 (fun b hb => o0.pl b hb)
  have o5r := o3r.chg c5 (fun b hb => fun hp => o0.lr b hp hb)
  have z5 := z3.step c5 (fun k hk _ => by simp [bl3, hk])
  have hb5 : ∀ b ∈ vblk r5, b ∈ vblk lv ∨ h.size ≤ b := fun b hb => by
   rcases hb5 b hb with h | h
   ·exact .inl h
   ·exact .inr (by omega)
  obtain ⟨a5, k5, rfl, _⟩ := S5.form
  have nr5 : tb ∉ vblk (.slice a5 (t.list.take k ++ e.name :: t.list.drop k).length k5) := fun hm => by
   rcases hb5 tb hm with h | h
   ·exact hn'.2.1 h
   ·omega
  refine Ei _ (Ai T5 (Ai (by simp [cellsT]) (Ai rfl (Ai (ones1 rfl) ?_))))
  intro h6 p6
  exact do_end (show Blk h6 tb (cellsT { t with list := (t.list.take k ++ e.name :: t.list.drop k) } pv (.slice a5 (t.list.take k ++ e.name :: t.list.drop k).length k5) rv) from p6.blk) (o5p.sl.chg p6.chg (by intro b hb; simp; rintro rfl; exact hn'.1 hb)) (S5.chg p6.chg (by intro b hb; simp; rintro rfl; exact nr5 hb)) (o5r.sl.chg p6.chg (by intro b hb; simp; rintro rfl; exact hn'.2.2 hb)) (bl3_l hb5) (z5.step p6.chg (by simp))
theorem remove_do {t : Thing} {e : Eff} (hop : e.op = 13) (gd : TGood t) (hk : t.kind = 4) : DoOK 198 t e := by
 have ed : doneT t e = ({ t with list := delF (fun x => decide (x = e.name)) t.list }, if t.list.any (fun x => decide (x = e.name)) then 0 else 5) := by unfold doneT; simp [hop]
 intro h tb pv lv rv T0 o0 hn
 rw [ed]
 have lens := gd.lens
 have lp := lens.p
 have ll := lens.l
 have lr := lens.r
 have hn' : tb ∉ vblk pv ∧ tb ∉ vblk lv ∧ tb ∉ vblk rv := by simpa [bl3] using hn
 have ltb := T0.lt
 refine f198_calls (by simp) ?_
 intro b3 h1 g1
 have c1 := g1.chg
 have i3 := g1.id
 have s1 := g1.size
 have B31 : Blk h1 b3 (encD e) := g1.blk
 have T1 := T0.chg c1 (by simp)
 have o1 := o0.ext c1
 have z1 : Chg (tb :: bl3 pv lv rv) h h1 := ((Chg.refl h).mono (by simp)).step c1 (by simp)
 have hs := gd.ls hk
 refine Ei _ (Ai (cell_blk T1 rfl) (Ei _ (Ai (cell_blk B31 rfl) ?_)))
 refine call_ret (bynS_calls e.name o1.l.sl (by omega) hs) ?_
 rintro _ h2 ⟨⟨k, rfl, hc⟩, c2⟩
 have s2 := c2.size
 have o2 := o1.ext c2
 have T2 := T1.chg c2 (by simp)
 have z2 := z1.step c2 (by simp)
 cases hf : (t.list[k]?).any fun x => decide (x = e.name) with
 |false =>
  have ea := any_none (nm := fun x : ByteArray => x) hs hc hf
  rw [if_neg (by rw [ea]; simp)]
  exact do_no (by decide) z2
 |true =>
  obtain ⟨ed2, ea⟩ := del_there (nm := fun x : ByteArray => x) hs hc hf
  obtain ⟨hkl, _⟩ := cut_there (nm := fun x : ByteArray => x) hs hc hf
  rw [if_pos ea, ed2]
  refine Ei _ (Ai (cell_blk T2 rfl) ?_)
  refine Ai rfl (fun z hz => ?_)
  have hz := add_in hz (by omega) (by omega)
  have hz : z = ((k + 1 : Nat) : Int) := by omega
  subst hz
  refine call_ret (delS_calls o2.l (by omega) hkl) ?_
  rintro r5 h5 ⟨O5, c5, hb5⟩
  have S5 := O5.sl
  have T5 := T2.chg c5 hn'.2.1
  have o2p := o2.p
  have o2l := o2.l
  have o2r := o2.r
  have o5p := o2p.chg c5 (fun b hb => o0.pl b hb)
  have o5r := o2r.chg c5 (fun b hb => fun hp => o0.lr b hp hb)
  have z5 := z2.step c5 (fun k hk _ => by simp [bl3, hk])
  have hb5 : ∀ b ∈ vblk r5, b ∈ vblk lv ∨ h.size ≤ b := fun b hb => .inl (hb5 b hb)
  obtain ⟨a5, k5, rfl, _⟩ := S5.form
  have nr5 : tb ∉ vblk (.slice a5 (t.list.take k ++ t.list.drop (k + 1)).length k5) := fun hm => by
   rcases hb5 tb hm with h | h
   ·exact hn'.2.1 h
   ·omega
  refine Ei _ (Ai T5 (Ai (by simp [cellsT]) (Ai rfl (Ai (ones1 rfl) ?_))))
  intro h6 p6
  exact do_end (show Blk h6 tb (cellsT { t with list := (t.list.take k ++ t.list.drop (k + 1)) } pv (.slice a5 (t.list.take k ++ t.list.drop (k + 1)).length k5) rv) from p6.blk) (o5p.sl.chg p6.chg (by intro b hb; simp; rintro rfl; exact hn'.1 hb)) (S5.chg p6.chg (by intro b hb; simp; rintro rfl; exact nr5 hb)) (o5r.sl.chg p6.chg (by intro b hb; simp; rintro rfl; exact hn'.2.2 hb)) (bl3_l hb5) (z5.step p6.chg (by simp))
theorem unhash_do {t : Thing} {e : Eff} (hop : e.op = 6) (gd : TGood t) : DoOK 190 t e := by
 have ed : doneT t e = ({ t with pairs := delF (fun x => decide (x.name = e.name)) t.pairs }, if t.pairs.any (fun x => decide (x.name = e.name)) then 0 else 5) := by unfold doneT; simp [hop]
 intro h tb pv lv rv T0 o0 hn
 rw [ed]
 have lens := gd.lens
 have lp := lens.p
 have ll := lens.l
 have lr := lens.r
 have hn' : tb ∉ vblk pv ∧ tb ∉ vblk lv ∧ tb ∉ vblk rv := by simpa [bl3] using hn
 have ltb := T0.lt
 refine f190_calls (by simp) ?_
 intro b3 h1 g1
 have c1 := g1.chg
 have i3 := g1.id
 have s1 := g1.size
 have B31 : Blk h1 b3 (encD e) := g1.blk
 have T1 := T0.chg c1 (by simp)
 have o1 := o0.ext c1
 have z1 : Chg (tb :: bl3 pv lv rv) h h1 := ((Chg.refl h).mono (by simp)).step c1 (by simp)
 have hs := gd.ps
 refine Ei _ (Ai (cell_blk T1 rfl) (Ei _ (Ai (cell_blk B31 rfl) ?_)))
 refine call_ret (bynP_calls e.name o1.p.sl (by omega) hs) ?_
 rintro _ h2 ⟨⟨k, rfl, hc⟩, c2⟩
 have s2 := c2.size
 have o2 := o1.ext c2
 have T2 := T1.chg c2 (by simp)
 have z2 := z1.step c2 (by simp)
 cases hf : (t.pairs[k]?).any fun x => decide (x.name = e.name) with
 |false =>
  have ea := any_none (nm := fun x : Pair => x.name) hs hc hf
  rw [if_neg (by rw [ea]; simp)]
  exact do_no (by decide) z2
 |true =>
  obtain ⟨ed2, ea⟩ := del_there (nm := fun x : Pair => x.name) hs hc hf
  obtain ⟨hkl, _⟩ := cut_there (nm := fun x : Pair => x.name) hs hc hf
  rw [if_pos ea, ed2]
  refine Ei _ (Ai (cell_blk T2 rfl) ?_)
  refine Ai rfl (fun z hz => ?_)
  have hz := add_in hz (by omega) (by omega)
  have hz : z = ((k + 1 : Nat) : Int) := by omega
  subst hz
  refine call_ret (delP_calls o2.p (by omega) hkl) ?_
  rintro r5 h5 ⟨O5, c5, hb5⟩
  have S5 := O5.sl
  have T5 := T2.chg c5 hn'.1
  have o2p := o2.p
  have o2l := o2.l
  have o2r := o2.r
  have o5l := o2l.chg c5 (fun b hb => fun hp => o0.pl b hp hb)
  have o5r := o2r.chg c5 (fun b hb => fun hp => o0.pr b hp hb)
  have z5 := z2.step c5 (fun k hk _ => by simp [bl3, hk])
  have hb5 : ∀ b ∈ vblk r5, b ∈ vblk pv ∨ h.size ≤ b := fun b hb => .inl (hb5 b hb)
  obtain ⟨a5, k5, rfl, _⟩ := S5.form
  have nr5 : tb ∉ vblk (.slice a5 (t.pairs.take k ++ t.pairs.drop (k + 1)).length k5) := fun hm => by
   rcases hb5 tb hm with h | h
   ·exact hn'.1 h
   ·omega
  refine Ei _ (Ai T5 (Ai (by simp [cellsT]) (Ai rfl (Ai (ones1 rfl) ?_))))
  intro h6 p6
  exact do_end (show Blk h6 tb (cellsT { t with pairs := (t.pairs.take k ++ t.pairs.drop (k + 1)) } (.slice a5 (t.pairs.take k ++ t.pairs.drop (k + 1)).length k5) lv rv) from p6.blk) (S5.chg p6.chg (by intro b hb; simp; rintro rfl; exact nr5 hb)) (o5l.sl.chg p6.chg (by intro b hb; simp; rintro rfl; exact hn'.2.1 hb)) (o5r.sl.chg p6.chg (by intro b hb; simp; rintro rfl; exact hn'.2.2 hb)) (bl3_p hb5) (z5.step p6.chg (by simp))
theorem hash_rest {t : Thing} {e : Eff} {h h2 : Heap} {tb b3 k : Nat} {pv pv' lv rv : Value} {L : List Pair} (hn' : tb ∉ vblk pv' ∧ tb ∉ vblk lv ∧ tb ∉ vblk rv) (T : Blk h2 tb (cellsT { t with pairs := L } pv' lv rv)) (B3 : Blk h2 b3 (encD e))
  (O : OL encP 2 h2 pv' L) (hk : k < L.length) (hnm : L[k].name = e.name) (sl : SL encS h2 lv t.list) (sr : SL encR h2 rv t.ranks) (hl : ∀ b ∈ vblk pv', b ∉ vblk lv) (hr : ∀ b ∈ vblk pv', b ∉ vblk rv)
  (hb : ∀ b ∈ vblk pv', b ∈ vblk pv ∨ h.size ≤ b) (c : Chg (tb :: bl3 pv lv rv) h h2) (_ : h.size ≤ h2.size) :
  swp Tryz.prog (.seq (.ops f189r4) (.seq (.ops f189r5) .ret)) (retQ [.t 4] (Ret (DoPost { t with pairs := L.set k ⟨e.name, e.text⟩ } 0 tb pv lv rv h))) (mk [(0, ptr tb), (3, ptr b3), (5, .int .i64 k)]) [] h2 := by
 obtain ⟨la, lc, rfl, _⟩ := O.form
 obtain ⟨_, hopen⟩ := O.open
 rcases hopen with ⟨_, e0, _⟩ | ⟨b, rfl, hle, rest, B, hbl⟩
 ·subst e0; exact absurd hk (by simp)
 refine Ei _ (Ai (cell_blk T rfl) (Ei _ (Ai (cell_blk B3 rfl) ?_)))
 refine Ai (by omega) (Ai (by omega) ?_)
 obtain ⟨q1, q2⟩ := set_cells (enc := encP) L k hk ⟨e.name, e.text⟩ rest
 have zi := take_len encP_len L k (by omega)
 have q1' : L.flatMap encP ++ rest = ((L.take k).flatMap encP ++ [.string e.name]) ++ ([.string L[k].text] ++ ((L.drop (k + 1)).flatMap encP ++ rest)) := by
  rw [q1]; simp [encP, hnm]
 have q2' : (L.set k ⟨e.name, e.text⟩).flatMap encP ++ rest = ((L.take k).flatMap encP ++ [.string e.name]) ++ ([.string e.text] ++ ((L.drop (k + 1)).flatMap encP ++ rest)) := by
  rw [q2]; simp [encP]
 refine Ei _ (Ai B (Ai ?_ (Ai rfl (Ai (ones1 rfl) ?_))))
 ·rw [hbl]; omega
 intro h5 p5
 have e5 : splice (L.flatMap encP ++ rest) (0 + (k : Int).toNat * 2 + 1) [.string e.text] = (L.set k ⟨e.name, e.text⟩).flatMap encP ++ rest := by
  rw [q2', q1', show 0 + (k : Int).toNat * 2 + 1 = ((L.take k).flatMap encP ++ [Value.string e.name]).length by rw [List.length_append, zi]; simp]
  exact splice_at _ _ _ _ rfl
 have P5 : Put h2 h5 b ((L.set k ⟨e.name, e.text⟩).flatMap encP ++ rest) := by
  rw [← e5]; exact p5
 have O5 : OL encP 2 h5 (.slice (some ⟨b, 0, none⟩) L.length lc) (L.set k ⟨e.name, e.text⟩) := by
  refine OL.mk (rest := rest) (by simp) (by simp; exact hle) P5.blk ?_
  rw [← hbl]
  simp only [List.length_append, flatMap_len encP_len, List.length_set]
 have c5 : Chg (vblk (.slice (some ⟨b, 0, none⟩) L.length lc)) h2 h5 := P5.chg
 refine do_end (t' := { t with pairs := L.set k ⟨e.name, e.text⟩ }) (show Blk h5 tb (cellsT { t with pairs := L.set k ⟨e.name, e.text⟩ } _ _ _) from T.chg c5 hn'.1) O5.sl (sl.chg c5 fun x hx hp => hl x hp hx) (sr.chg c5 fun x hx hp => hr x hp hx) (bl3_p hb) (c.step c5 fun x hx hlt => ?_)
 rcases hb x hx with h | h
 ·simp [bl3, h]
 ·omega
theorem hash_do {t : Thing} {e : Eff} (hop : e.op = 5) (gd : TGood t) : DoOK 189 t e := by
 have ed : doneT t e = ({ t with pairs := putF (fun x => decide (x.name = e.name)) (fun x => sless e.name x.name) ⟨e.name, e.text⟩ t.pairs false }, 0) := by unfold doneT; simp [hop]
 intro h tb pv lv rv T0 o0 hn
 rw [ed]
 have lens := gd.lens
 have lp := lens.p
 have ll := lens.l
 have lr := lens.r
 have hn' : tb ∉ vblk pv ∧ tb ∉ vblk lv ∧ tb ∉ vblk rv := by simpa [bl3] using hn
 have ltb := T0.lt
 refine f189_calls (by simp) ?_
 intro b3 h1 g1
 have c1 := g1.chg
 have i3 := g1.id
 have s1 := g1.size
 have B31 : Blk h1 b3 (encD e) := g1.blk
 have T1 := T0.chg c1 (by simp)
 have o1 := o0.ext c1
 have z1 : Chg (tb :: bl3 pv lv rv) h h1 := ((Chg.refl h).mono (by simp)).step c1 (by simp)
 have hs := gd.ps
 refine Ei _ (Ai (cell_blk T1 rfl) (Ei _ (Ai (cell_blk B31 rfl) ?_)))
 refine call_ret (bynP_calls e.name o1.p.sl (by omega) hs) ?_
 rintro _ h2 ⟨⟨k, rfl, hc⟩, c2⟩
 have s2 := c2.size
 have o2 := o1.ext c2
 have T2 := T1.chg c2 (by simp)
 have B32 := B31.chg c2 (by simp)
 have z2 := z1.step c2 (by simp)
 cases hf : (t.pairs[k]?).any fun x => decide (x.name = e.name) with
 |true =>
  obtain ⟨hkl, hke, _⟩ := cut_there (nm := fun x : Pair => x.name) hs hc hf
  have ep : putF (fun x => decide (x.name = e.name)) (fun x => sless e.name x.name) ⟨e.name, e.text⟩ t.pairs false = t.pairs.set k ⟨e.name, e.text⟩ := by
   have h1 := put_there (nm := fun x : Pair => x.name) (y := (⟨e.name, e.text⟩ : Pair)) hs hc hf
   rw [h1, List.set_eq_take_append_cons_drop, if_pos hkl]
  rw [ep]
  refine swp_seq ?_
  exact cut_at [(0, ptr tb), (3, ptr b3), (5, .int .i64 k)] ⟨rfl, rfl, rfl, trivial⟩ (hash_rest (pv := pv) hn' T2 B32 o2.p hkl hke o2.l.sl o2.r.sl o0.pl o0.pr (fun b hb => .inl hb) z2 (by omega))
 |false =>
  have ep := put_none (nm := fun x : Pair => x.name) (y := (⟨e.name, e.text⟩ : Pair)) hs hc hf
  rw [ep]
  refine Ei _ (Ai (cell_blk T2 rfl) (Ei _ (Ai (cell_blk B32 rfl) ?_)))
  intro b4 h3 g3
  have c3 := g3.chg
  have i4 := g3.id
  have s3 := g3.size
  have o3 := o2.ext c3
  have T3 := T2.chg c3 (by simp)
  have z3 := z2.step c3 (by simp)
  have lb := o2.p.lt
  have B4 : Blk h3 b4 (encP ⟨e.name, noText⟩) := g3.blk
  refine call_ret (insP_calls (x := ⟨e.name, noText⟩) o3.p (by omega) hc.le B4 (fun hb => by have := lb b4 hb; omega)) ?_
  rintro r5 h5 ⟨O5, c5, hb5⟩
  have hl5 : ∀ b ∈ vblk r5, b ∉ vblk lv := fun b hb hx => by
   rcases hb5 b hb with h | h
   ·exact o0.pl b h hx
   ·have := o0.l.lt b hx; omega
  have hr5 : ∀ b ∈ vblk r5, b ∉ vblk rv := fun b hb hx => by
   rcases hb5 b hb with h | h
   ·exact o0.pr b h hx
   ·have := o0.r.lt b hx; omega
  obtain ⟨a5, k5, rfl, _⟩ := O5.form
  have T5 := T3.chg c5 hn'.1
  have B35 := (B32.chg c3 (by simp)).chg c5 (fun hx => by have := o0.p.lt b3 hx; omega)
  have o3l := o3.l
  have o3r := o3.r
  have o5l := o3l.chg c5 (fun b hb => fun hp => o0.pl b hp hb)
  have o5r := o3r.chg c5 (fun b hb => fun hp => o0.pr b hp hb)
  have z5 := z3.step c5 (fun k hk _ => by simp [bl3, hk])
  have s5 := c5.size
  have n5 : tb ∉ vblk (.slice a5 (t.pairs.take k ++ ⟨e.name, noText⟩ :: t.pairs.drop k).length k5) := fun hm => by
   rcases hb5 tb hm with h | h
   ·exact hn'.1 h
   ·omega
  refine Ei _ (Ai T5 (Ai (by simp [cellsT]) (Ai rfl (Ai (ones1 rfl) ?_))))
  intro h6 p6
  have hkl : k < (t.pairs.take k ++ (⟨e.name, noText⟩ : Pair) :: t.pairs.drop k).length := by have := hc.le; simp; omega
  have tkl : (t.pairs.take k).length = k := by have := hc.le; simp; omega
  have hke : (t.pairs.take k ++ (⟨e.name, noText⟩ : Pair) :: t.pairs.drop k)[k].name = e.name := by
   rw [List.getElem_append_right (by omega)]
   simp [tkl]
  have es : (t.pairs.take k ++ (⟨e.name, noText⟩ : Pair) :: t.pairs.drop k).set k ⟨e.name, e.text⟩ = t.pairs.take k ++ ⟨e.name, e.text⟩ :: t.pairs.drop k := by
   rw [List.set_append_right _ _ (by omega)]
   simp [tkl]
  rw [← es]
  refine cut_at [(0, ptr tb), (3, ptr b3), (5, .int .i64 k)] ⟨rfl, rfl, rfl, trivial⟩ (hash_rest (pv := pv) ⟨n5, hn'.2⟩ (show Blk h6 tb (cellsT { t with pairs := _ } _ _ _) from p6.blk) (B35.chg p6.chg (by simp; omega)) (O5.chg p6.chg (by intro b hb; simp; rintro rfl; exact n5 hb)) hkl hke
   (o5l.sl.chg p6.chg (by intro b hb; simp; rintro rfl; exact hn'.2.1 hb)) (o5r.sl.chg p6.chg (by intro b hb; simp; rintro rfl; exact hn'.2.2 hb)) hl5 hr5 (fun b hb => ?_) (z5.step p6.chg (by simp)) (by have := p6.size; omega))
  rcases hb5 b hb with h | h
  ·exact .inl h
  ·exact .inr (by omega)
theorem unrank1_calls {h : Heap} {b3 : Nat} (x : Rank) (e : Eff) (B3 : Blk h b3 (encD e)) : CallsH Tryz.prog 260 [.agg ⟨encR x⟩, ptr b3] h (Ret fun u h' => u = .bool (decide (x.name = e.name)) ∧ Chg [] h h') := by
 refine f260_calls (by simp) ?_
 intro b2 h1 g1
 have B2 : Blk h1 b2 (encR x) := g1.blk
 refine Ei _ (Ai (cell_blk B2 rfl) (Ei _ (Ai (cell_blk (B3.chg g1.chg (by simp)) rfl) ?_)))
 refine Ai (fun hq => ?_) (fun hq => ?_)
 ·exact Ai (by rw [decide_eq_true hq]; rfl) g1.chg
 ·exact Ai (by rw [decide_eq_false hq]; rfl) g1.chg
theorem unrank_calls {t : Thing} (e : Eff) {h : Heap} {tb : Nat} {pv lv rv : Value} (gd : TGood t) (T0 : Blk h tb (cellsT t pv lv rv)) (o0 : TO h pv lv rv t) (hn : tb ∉ bl3 pv lv rv) :
  CallsH Tryz.prog 200 [ptr tb, .agg ⟨encD e⟩] h (Ret fun r h' => r = .int .i64 (if t.ranks.any (fun x => decide (x.name = e.name)) then 0 else 5) ∧
   ∃ rv', Blk h' tb (cellsT { t with ranks := delF (fun x => decide (x.name = e.name)) t.ranks } pv lv rv') ∧ OL encR 2 h' rv' (delF (fun x => decide (x.name = e.name)) t.ranks) ∧ (∀ b ∈ vblk rv', b ∈ vblk rv) ∧ Chg (tb :: vblk rv) h h') := by
 have lens := gd.lens
 have lr := lens.r
 have hn' : tb ∉ vblk pv ∧ tb ∉ vblk lv ∧ tb ∉ vblk rv := by simpa [bl3] using hn
 have ltb := T0.lt
 refine f200_calls (by simp) ?_
 intro b3 h1 g1
 have c1 := g1.chg
 have B31 : Blk h1 b3 (encD e) := g1.blk
 have T1 := T0.chg c1 (by simp)
 have o1 := o0.ext c1
 have z1 : Chg (tb :: vblk rv) h h1 := ((Chg.refl h).mono (by simp)).step c1 (by simp)
 refine Ei _ (Ai (cell_blk T1 rfl) ?_)
 refine call_ret (ixfR_calls (g := 260) (cap := [ptr b3]) (p := fun x => decide (x.name = e.name)) o1.r.sl (by omega) fun h' x hc => unrank1_calls x e (B31.chg hc (by simp))) ?_
 rintro r2 h2 ⟨hr2, c2⟩
 have o2 := o1.ext c2
 have T2 := T1.chg c2 (by simp)
 have z2 := z1.step c2 (by simp)
 rcases hr2 with ⟨k, hk, rfl, hp⟩ | ⟨rfl, hall⟩
 rotate_left
 ·refine Ai rfl (Ai (fun _ => ?_) (fun hx => absurd (show (-1 : Int) < 0 by decide) hx))
  have ea : t.ranks.any (fun x => decide (x.name = e.name)) = false := List.any_eq_false.2 fun x hx => by rw [hall x hx]; simp
  have ed : delF (fun x : Rank => decide (x.name = e.name)) t.ranks = t.ranks := delF_id hall
  rw [ea, ed]
  exact Ai rfl (Ei rv (Ai T2 (Ai o2.r (Ai (fun _ h => h) z2))))
 refine Ai rfl (Ai (fun hx => absurd hx (by omega)) (fun _ => ?_))
 have hke : t.ranks[k].name = e.name := by simpa using hp
 have ea : t.ranks.any (fun x => decide (x.name = e.name)) = true := List.any_eq_true.2 ⟨_, List.getElem_mem hk, hp⟩
 have ed := del_rank gd.once hk hke
 rw [ea, ed]
 refine Ei _ (Ai (cell_blk T2 rfl) ?_)
 refine Ai rfl (fun z hz => ?_)
 have hz := add_in hz (by omega) (by omega)
 have hz : z = ((k + 1 : Nat) : Int) := by omega
 subst hz
 refine call_ret (delR_calls o2.r (by omega) hk) ?_
 rintro r5 h5 ⟨O5, c5, hb5⟩
 have n5 : tb ∉ vblk r5 := fun hx => hn'.2.2 (hb5 tb hx)
 obtain ⟨a5, k5, rfl, _⟩ := O5.form
 have T5 := T2.chg c5 hn'.2.2
 refine Ei _ (Ai T5 (Ai (by simp [cellsT]) (Ai rfl (Ai (ones1 rfl) ?_))))
 intro h6 p6
 have z5 := z2.step c5 (fun k hk _ => by simp [hk])
 exact Ai rfl (Ei _ (Ai (show Blk h6 tb (cellsT { t with ranks := _ } _ _ _) from p6.blk) (Ai (O5.chg p6.chg (by intro b hb; simp; rintro rfl; exact n5 hb)) (Ai hb5 (z5.step p6.chg (by simp))))))
theorem unrank_do {t : Thing} {e : Eff} (hop : e.op = 15) (gd : TGood t) : DoOK 200 t e := by
 have ed : doneT t e = ({ t with ranks := delF (fun x => decide (x.name = e.name)) t.ranks }, if t.ranks.any (fun x => decide (x.name = e.name)) then 0 else 5) := by unfold doneT; simp [hop]
 intro h tb pv lv rv T0 o0 hn
 rw [ed]
 have hn' : tb ∉ vblk pv ∧ tb ∉ vblk lv ∧ tb ∉ vblk rv := by simpa [bl3] using hn
 refine (unrank_calls e gd T0 o0 hn).mono fun en h' he => ?_
 cases en with
 |returned v =>
  obtain ⟨hv, rv', B, O, hb, c⟩ := he
  have c' : Chg (tb :: bl3 pv lv rv) h h' := c.mono (by intro k hk; simp only [List.mem_cons, bl3, List.mem_append] at hk ⊢; rcases hk with h | h; exact .inl h; exact .inr (.inr (.inr h)))
  refine ⟨hv, fun _ => ?_, c'⟩
  have hpc : ∀ b ∈ vblk pv, b ∉ tb :: vblk rv := fun b hb => by simp only [List.mem_cons, not_or]; exact ⟨by rintro rfl; exact hn'.1 hb, o0.pr b hb⟩
  have hlc : ∀ b ∈ vblk lv, b ∉ tb :: vblk rv := fun b hb => by simp only [List.mem_cons, not_or]; exact ⟨by rintro rfl; exact hn'.2.1 hb, o0.lr b hb⟩
  exact (do_end (t' := { t with ranks := delF (fun x => decide (x.name = e.name)) t.ranks }) B (o0.p.sl.chg c hpc) (o0.l.sl.chg c hlc) O.sl (bl3_r fun b hb' => .inl (hb b hb')) c').2.1 rfl
 |panicked ch => exact he.elim
 |outgrown => exact he.elim
theorem TGood.unranked {t : Thing} (gd : TGood t) (name : ByteArray) : ((delF (fun x : Rank => decide (x.name = name)) t.ranks).map Rank.name).Nodup ∧ (delF (fun x : Rank => decide (x.name = name)) t.ranks).Pairwise (fun a b => aheadR a b = true) ∧ (delF (fun x : Rank => decide (x.name = name)) t.ranks).length ≤ t.ranks.length ∧ ∀ x ∈ delF (fun x : Rank => decide (x.name = name)) t.ranks, x.name ≠ name := by
 refine ⟨?_, gd.rs.filter _, List.length_filter_le _ _, fun x hx => ?_⟩
 ·exact List.Nodup.sublist (List.Sublist.map _ List.filter_sublist) gd.once
 ·have := (List.mem_filter.1 hx).2
  simpa using this
theorem rank_do {t : Thing} {e : Eff} (hop : e.op = 14) (gd : TGood t) : DoOK 199 t e := by
 have ed : doneT t e = ({ t with ranks := putF (fun x => decide (x.name = e.name)) (fun x => aheadR ⟨e.name, e.num⟩ x) ⟨e.name, e.num⟩ t.ranks false }, 0) := by unfold doneT; simp [hop]
 intro h tb pv lv rv T0 o0 hn
 rw [ed]
 have lens := gd.lens
 have lr := lens.r
 have hn' : tb ∉ vblk pv ∧ tb ∉ vblk lv ∧ tb ∉ vblk rv := by simpa [bl3] using hn
 have ltb := T0.lt
 refine f199_calls (by simp) ?_
 intro b3 h1 g1
 have c1 := g1.chg
 have i3 := g1.id
 have s1 := g1.size
 have B31 : Blk h1 b3 (encD e) := g1.blk
 have T1 := T0.chg c1 (by simp)
 have o1 := o0.ext c1
 have z1 : Chg (tb :: bl3 pv lv rv) h h1 := ((Chg.refl h).mono (by simp)).step c1 (by simp)
 refine Ei (encD e) (Ai rfl (Ai (cells_blk B31) ?_))
 refine call_ret (unrank_calls e gd T1 o1 hn) ?_
 rintro r2 h2 ⟨hr2, rv2, T2, O2, hb2, c2⟩
 obtain ⟨un, up, ul, unn⟩ := gd.unranked e.name
 generalize hL : delF (fun x : Rank => decide (x.name = e.name)) t.ranks = L at *
 have hpc : ∀ b ∈ vblk pv, b ∉ tb :: vblk rv := fun b hb => by simp only [List.mem_cons, not_or]; exact ⟨by rintro rfl; exact hn'.1 hb, o0.pr b hb⟩
 have hlc : ∀ b ∈ vblk lv, b ∉ tb :: vblk rv := fun b hb => by simp only [List.mem_cons, not_or]; exact ⟨by rintro rfl; exact hn'.2.1 hb, o0.lr b hb⟩
 have o2p := o1.p.chg c2 hpc
 have o2l := o1.l.chg c2 hlc
 have B32 := B31.chg c2 (by simp only [List.mem_cons, not_or]; exact ⟨by omega, fun hx => by have := o0.r.lt b3 hx; omega⟩)
 have z2 := z1.step c2 (by intro k hk _; simp only [List.mem_cons, bl3, List.mem_append] at hk ⊢; rcases hk with h | h; exact .inl h; exact .inr (.inr (.inr h)))
 have s2 := c2.size
 refine Ei _ (Ai (cell_blk B32 rfl) (Ei _ (Ai (cell_blk B32 rfl) ?_)))
 intro b5 h3 g3
 refine Ei _ (Ai g3.blk (Ai (by decide) (Ai rfl (Ai (encR_one ⟨e.name, e.num⟩) ?_))))
 intro h4 p4
 have g4 := g3.put p4
 have B5 : Blk h4 b5 (encR ⟨e.name, e.num⟩) := p4.blk
 have c4 := g4.chg
 have s4 := g4.size
 have T4 := T2.chg c4 (by simp)
 have O4 := O2.chg c4 (by simp)
 have z4 := z2.step c4 (by simp)
 refine Ei _ (Ai (cell_blk T4 rfl) ?_)
 refine Ei (encR ⟨e.name, e.num⟩) (Ai rfl (Ai (cells_blk B5) ?_))
 refine call_ret (bsR_calls (g := 73) (cap := []) (tgt := ⟨e.name, e.num⟩) (lo := fun x => aheadR x ⟨e.name, e.num⟩) O4.sl (by omega) ?_ ?_) ?_
 ·intro h' x hc
  exact ahead_ord h' x ⟨e.name, e.num⟩ hc
 ·intro i j hj hi hlo
  rcases Nat.lt_or_eq_of_le hi with hlt | rfl
  ·exact ahead_tr _ _ _ (List.pairwise_iff_getElem.1 up i j (by omega) hj hlt) hlo
  ·exact hlo
 rintro _ h5 ⟨⟨k, f, rfl, hc⟩, c5⟩
 have ep : putF (fun x => decide (x.name = e.name)) (fun x => aheadR ⟨e.name, e.num⟩ x) ⟨e.name, e.num⟩ t.ranks false = L.take k ++ ⟨e.name, e.num⟩ :: L.drop k := by
  have h1 := put_rank (y := ⟨e.name, e.num⟩) unn hc
  rw [← h1, ← hL, putF_del]
 rw [ep]
 have T5 := T4.chg c5 (by simp)
 have O5 := O4.chg c5 (by simp)
 have z5 := z4.step c5 (by simp)
 have B55 := B5.chg c5 (by simp)
 have s5 := c5.size
 refine Ei _ (Ai (cell_blk T5 rfl) ?_)
 refine Ei (encR ⟨e.name, e.num⟩) (Ai rfl (Ai (cells_blk B55) ?_))
 intro b6 h6 g6
 have B6 : Blk h6 b6 (encR ⟨e.name, e.num⟩) := g6.blk
 have c6 := g6.chg
 have i6 := g6.id
 have s6 := g6.size
 have T6 := T5.chg c6 (by simp)
 have O6 := O5.chg c6 (by simp)
 have z6 := z5.step c6 (by simp)
 have lb := O5.lt
 refine call_ret (insR_calls (x := ⟨e.name, e.num⟩) O6 (by omega) hc.le B6 (fun hb => by have := lb b6 hb; omega)) ?_
 rintro r7 h7 ⟨O7, c7, hb7⟩
 have hb7' : ∀ b ∈ vblk r7, b ∈ vblk rv ∨ h.size ≤ b := fun b hb => by
  rcases hb7 b hb with h | h
  ·exact .inl (hb2 b h)
  ·exact .inr (by omega)
 have n7 : tb ∉ vblk r7 := fun hm => by
  rcases hb7' tb hm with h | h
  ·exact hn'.2.2 h
  ·omega
 have c27 : ∀ b, b < h.size → b ∉ vblk rv → b ∉ vblk rv2 := fun b _ hb hx => hb (hb2 b hx)
 obtain ⟨a7, k7, rfl, _⟩ := O7.form
 have T7 := T6.chg c7 (fun hx => hn'.2.2 (hb2 tb hx))
 have o7p := (((o2p.chg c4 (by simp)).chg c5 (by simp)).chg c6 (by simp)).chg c7 (fun b hb hx => o0.pr b hb (hb2 b hx))
 have o7l := (((o2l.chg c4 (by simp)).chg c5 (by simp)).chg c6 (by simp)).chg c7 (fun b hb hx => o0.lr b hb (hb2 b hx))
 have z7 := z6.step c7 (fun k hk _ => by simp only [List.mem_cons, bl3, List.mem_append]; exact .inr (.inr (.inr (hb2 k hk))))
 refine Ei _ (Ai T7 (Ai (by simp [cellsT]) (Ai rfl (Ai (ones1 rfl) ?_))))
 intro h8 p8
 exact do_end (t' := { t with ranks := L.take k ++ ⟨e.name, e.num⟩ :: L.drop k }) (show Blk h8 tb (cellsT { t with ranks := _ } _ _ _) from p8.blk) (o7p.sl.chg p8.chg (by intro b hb; simp; rintro rfl; exact hn'.1 hb)) (o7l.sl.chg p8.chg (by intro b hb; simp; rintro rfl; exact hn'.2.1 hb))
  (O7.sl.chg p8.chg (by intro b hb; simp; rintro rfl; exact n7 hb)) (bl3_r hb7') (z7.step p8.chg (by simp))
structure Rule where
 name : Bool
 text : Bool
 number : Bool
 kind : Int
 makes : Bool
 f : Nat
def Rule.val (r : Rule) : Value := ruleV r.name r.text r.number r.kind r.makes r.f
def ruleR (op : Int) : Option Rule :=
 if op = 1 then some ⟨false, false, false, 0, false, 185⟩ else
 if op = 2 then some ⟨false, true, false, 0, true, 186⟩ else
 if op = 3 then some ⟨false, false, true, 0, false, 187⟩ else
 if op = 4 then some ⟨false, false, false, 0, false, 188⟩ else
 if op = 5 then some ⟨true, true, false, 2, true, 189⟩ else
 if op = 6 then some ⟨true, false, false, 2, false, 190⟩ else
 if op = 7 then some ⟨false, true, false, 3, true, 191⟩ else
 if op = 8 then some ⟨false, true, false, 3, true, 193⟩ else
 if op = 9 then some ⟨false, false, false, 3, false, 194⟩ else
 if op = 10 then some ⟨false, false, false, 3, false, 195⟩ else
 if op = 11 then some ⟨false, true, true, 3, false, 196⟩ else
 if op = 12 then some ⟨true, false, false, 4, true, 197⟩ else
 if op = 13 then some ⟨true, false, false, 4, false, 198⟩ else
 if op = 14 then some ⟨true, false, true, 5, true, 199⟩ else
 if op = 15 then some ⟨true, false, false, 5, false, 200⟩ else none
theorem rule_find (op : Int) : (ruleR op = none ∧ mfind (.int .i64 op) (entsI ruleL 0) 0 = none) ∨ ∃ r i, ruleR op = some r ∧ mfind (.int .i64 op) (entsI ruleL 0) 0 = some (i, r.val) := by
 by_cases h1 : op = 1; · subst h1; exact .inr ⟨_, _, rfl, rfl⟩
 by_cases h2 : op = 2; · subst h2; exact .inr ⟨_, _, rfl, rfl⟩
 by_cases h3 : op = 3; · subst h3; exact .inr ⟨_, _, rfl, rfl⟩
 by_cases h4 : op = 4; · subst h4; exact .inr ⟨_, _, rfl, rfl⟩
 by_cases h5 : op = 5; · subst h5; exact .inr ⟨_, _, rfl, rfl⟩
 by_cases h6 : op = 6; · subst h6; exact .inr ⟨_, _, rfl, rfl⟩
 by_cases h7 : op = 7; · subst h7; exact .inr ⟨_, _, rfl, rfl⟩
 by_cases h8 : op = 8; · subst h8; exact .inr ⟨_, _, rfl, rfl⟩
 by_cases h9 : op = 9; · subst h9; exact .inr ⟨_, _, rfl, rfl⟩
 by_cases h10 : op = 10; · subst h10; exact .inr ⟨_, _, rfl, rfl⟩
 by_cases h11 : op = 11; · subst h11; exact .inr ⟨_, _, rfl, rfl⟩
 by_cases h12 : op = 12; · subst h12; exact .inr ⟨_, _, rfl, rfl⟩
 by_cases h13 : op = 13; · subst h13; exact .inr ⟨_, _, rfl, rfl⟩
 by_cases h14 : op = 14; · subst h14; exact .inr ⟨_, _, rfl, rfl⟩
 by_cases h15 : op = 15; · subst h15; exact .inr ⟨_, _, rfl, rfl⟩
 refine .inl ⟨by unfold ruleR; simp [h1, h2, h3, h4, h5, h6, h7, h8, h9, h10, h11, h12, h13, h14, h15], mfind_entsI op ruleL 0 0 fun x hx => ?_⟩
 simp only [ruleL, List.mem_cons, List.not_mem_nil, or_false] at hx
 rcases hx with rfl | rfl | rfl | rfl | rfl | rfl | rfl | rfl | rfl | rfl | rfl | rfl | rfl | rfl | rfl
 all_goals intro e; simp only at e; omega
inductive Fate where
 |no (n : Int)
 |drop
 |put (t : Thing)
def endF (r : Thing × Int) (there full : Bool) : Fate :=
 if r.2 ≠ 0 then .no r.2 else if r.1.kind ≠ 1 ∧ countT r.1 = 0 then .drop else if 65536 < countT r.1 ∨ (there = false ∧ full = true) then .no 3 else .put r.1
def oneF (old : Option Thing) (e : Eff) (full : Bool) : Fate :=
 match ruleR e.op with
 |none => .no 2
 |some r =>
  if (r.name = false ∧ e.name ≠ noText) ∨ (r.text = false ∧ e.text ≠ noText) ∨ (r.number = false ∧ e.num ≠ 0) then .no 2 else
  if 1048576 < e.key.size ∨ 1048576 < e.name.size ∨ 1048576 < e.text.size then .no 3 else
  match old with
  |none => if r.makes = false then .no 5 else endF (doneT { zeroT with kind := r.kind } e) false full
  |some t => if r.kind ≠ 0 ∧ t.kind ≠ r.kind then .no 170 else endF (doneT t e) true full
abbrev Space := List (ByteArray × Thing)
def findS (S : Space) (key : ByteArray) : Option Thing := (S.find? fun p => decide (p.1 = key)).map (·.2)
def dropS (S : Space) (key : ByteArray) : Space := S.filter fun p => !decide (p.1 = key)
def putS (S : Space) (key : ByteArray) (t : Thing) : Space := S.filter (fun p => sless p.1 key) ++ (key, t) :: S.filter (fun p => sless key p.1)
def Fate.num : Fate → Int
 |.no n => n
 |_ => 0
def Fate.space (S : Space) (key : ByteArray) : Fate → Space
 |.no _ => S
 |.drop => dropS S key
 |.put t => putS S key t
def fateS (S : Space) (e : Eff) : Fate := oneF (findS S e.key) e (decide (65536 ≤ S.length))
def applyS : Space → List Eff → Space × Nat × Int
 |S, [] => (S, 0, 0)
 |S, e :: d => if (fateS S e).num = 0 then let r := applyS ((fateS S e).space S e.key) d; (r.1, r.2.1 + 1, r.2.2) else (S, 0, (fateS S e).num)
def UpS (S : Space) : Prop := S.Pairwise fun a b => sless a.1 b.1 = true
theorem mem_putS {S : Space} {key : ByteArray} {t : Thing} {p : ByteArray × Thing} : p ∈ putS S key t ↔ p = (key, t) ∨ (p ∈ S ∧ p.1 ≠ key) := by
 unfold putS
 rw [List.mem_append, List.mem_cons, List.mem_filter, List.mem_filter]
 constructor
 ·rintro (⟨h1, h2⟩ | h | ⟨h1, h2⟩)
  ·exact .inr ⟨h1, sless_ne (by simpa using h2)⟩
  ·exact .inl h
  ·exact .inr ⟨h1, fun e => sless_ne (by simpa using h2) e.symm⟩
 ·rintro (h | ⟨h1, h2⟩)
  ·exact .inr (.inl h)
  ·rcases sless_total h2 with h | h
   ·exact .inl ⟨h1, by simpa using h⟩
   ·exact .inr (.inr ⟨h1, by simpa using h⟩)
theorem up_putS {S : Space} {key : ByteArray} {t : Thing} (hu : UpS S) : UpS (putS S key t) := by
 unfold putS UpS
 rw [List.pairwise_append, List.pairwise_cons]
 refine ⟨hu.filter _, ⟨fun p hp => ?_, hu.filter _⟩, fun p hp q hq => ?_⟩
 ·have := (List.mem_filter.1 hp).2
  simpa using this
 ·have h1 : sless p.1 key = true := by simpa using (List.mem_filter.1 hp).2
  rcases List.mem_cons.1 hq with rfl | hq
  ·exact h1
  ·have h2 : sless key q.1 = true := by simpa using (List.mem_filter.1 hq).2
   exact sless_trans h1 h2
theorem mem_dropS {S : Space} {key : ByteArray} {p : ByteArray × Thing} : p ∈ dropS S key ↔ p ∈ S ∧ p.1 ≠ key := by
 unfold dropS
 rw [List.mem_filter]
 simp
theorem up_dropS {S : Space} {key : ByteArray} (hu : UpS S) : UpS (dropS S key) := hu.filter _
theorem up_space {S : Space} {key : ByteArray} (f : Fate) (hu : UpS S) : UpS (f.space S key) := by
 cases f with
 |no n => exact hu
 |drop => exact up_dropS hu
 |put t => exact up_putS hu
theorem up_inj {S : Space} (hu : UpS S) {p q : ByteArray × Thing} (hp : p ∈ S) (hq : q ∈ S) (h : p.1 = q.1) : p = q := by
 induction S with
 |nil => simp at hp
 |cons x S ih =>
  have hx := List.pairwise_cons.1 hu
  rcases List.mem_cons.1 hp with e1 | hp
  ·rcases List.mem_cons.1 hq with e2 | hq
   ·rw [e1, e2]
   ·have := hx.1 q hq
    rw [← e1, h, sless_irrefl] at this; cases this
  ·rcases List.mem_cons.1 hq with e2 | hq
   ·have := hx.1 p hp
    rw [← e2, h, sless_irrefl] at this; cases this
   ·exact ih hx.2 hp hq
theorem findS_some {S : Space} (hu : UpS S) {key : ByteArray} {t : Thing} (h : (key, t) ∈ S) : findS S key = some t := by
 unfold findS
 cases hf : S.find? fun p => decide (p.1 = key) with
 |none =>
  have := List.find?_eq_none.1 hf _ h
  simp at this
 |some p =>
  have h1 := List.find?_some hf
  have h2 := List.mem_of_find?_eq_some hf
  have : p = (key, t) := up_inj hu h2 h (by simpa using h1)
  rw [this]; rfl
theorem findS_none {S : Space} {key : ByteArray} (h : ∀ p ∈ S, p.1 ≠ key) : findS S key = none := by
 unfold findS
 rw [List.find?_eq_none.2 fun p hp => by simpa using h p hp]
 rfl
theorem findS_mem {S : Space} {key : ByteArray} {t : Thing} (h : findS S key = some t) : (key, t) ∈ S := by
 unfold findS at h
 cases hf : S.find? fun p => decide (p.1 = key) with
 |none => rw [hf] at h; cases h
 |some p =>
  rw [hf] at h
  have h1 : p.1 = key := by simpa using List.find?_some hf
  have h2 := List.mem_of_find?_eq_some hf
  have h3 : p.2 = t := by simpa using h
  rw [← h1, ← h3]; exact h2
theorem TGood.zero (k : Int) : TGood { zeroT with kind := k } :=
 ⟨List.Pairwise.nil, fun _ => List.Pairwise.nil, List.Pairwise.nil, List.nodup_nil, fun _ => ⟨rfl, rfl⟩, by show (0 : Nat) + 0 + 0 ≤ 65536; omega⟩
structure TIn (t : Thing) : Prop where
 good : TGood t
 some : t.kind = 3 → t.list ≠ []
def OfKind (t : Thing) (e : Eff) : Prop := ∀ r, ruleR e.op = some r → r.kind ≠ 0 → t.kind = r.kind
theorem nodup_putF {y : Rank} : ∀ {l : List Rank}, (l.map Rank.name).Nodup → ((putF (fun x => decide (x.name = y.name)) (fun x => aheadR y x) y l false).map Rank.name).Nodup
 |[], _ => by simp [putF]
 |x :: l, h => by
  rw [List.map_cons, List.nodup_cons] at h
  have ih := nodup_putF (y := y) h.2
  have hmem : ∀ {d : Bool} {m : List Rank} {z : Rank}, z ∈ putF (fun x => decide (x.name = y.name)) (fun x => aheadR y x) y m d → z = y ∨ (z ∈ m ∧ z.name ≠ y.name) := by
   intro d m z hz
   rcases mem_putF hz with h | ⟨h1, h2⟩
   ·exact .inl h
   ·exact .inr ⟨h1, by simpa using h2⟩
  simp only [putF]
  by_cases he : x.name = y.name
  ·rw [if_pos (by simpa using he)]; exact ih
  ·rw [if_neg (by simpa using he)]
   split
   ·rw [putF_true, List.map_cons, List.map_cons, List.nodup_cons, List.nodup_cons]
    refine ⟨?_, ?_, ?_⟩
    ·simp only [List.mem_cons, List.mem_map, not_or, not_exists, not_and]
     refine ⟨fun e => he e.symm, fun z hz e => ?_⟩
     have := (List.mem_filter.1 hz).2
     simp [e] at this
    ·intro hm
     obtain ⟨z, hz, e⟩ := List.mem_map.1 hm
     exact h.1 (by rw [← e]; exact List.mem_map_of_mem (List.mem_filter.1 hz).1)
    ·exact List.Nodup.sublist (List.Sublist.map _ List.filter_sublist) h.2
   ·rw [List.map_cons, List.nodup_cons]
    refine ⟨fun hm => ?_, ih⟩
    obtain ⟨z, hz, e⟩ := List.mem_map.1 hm
    rcases hmem hz with rfl | ⟨h1, _⟩
    ·exact he e.symm
    ·exact h.1 (by rw [← e]; exact List.mem_map_of_mem h1)
theorem doneT_cases {t : Thing} {e : Eff} {P : Thing × Int → Prop} (h1 : P (zeroT, 0)) (h2 : P (textT e.text, 0)) (h3 : P ({ t with hasU := true, unt := e.num }, 0)) (h4 : P ({ t with hasU := false, unt := 0 }, 0))
  (h5 : e.op = 5 → P ({ t with pairs := putF (fun x => decide (x.name = e.name)) (fun x => sless e.name x.name) ⟨e.name, e.text⟩ t.pairs false }, 0))
  (h6 : e.op = 6 → P ({ t with pairs := delF (fun x => decide (x.name = e.name)) t.pairs }, if t.pairs.any (fun x => decide (x.name = e.name)) then 0 else 5))
  (h7 : e.op = 7 → P ({ t with list := e.text :: t.list }, 0)) (h8 : e.op = 8 → P ({ t with list := t.list ++ [e.text] }, 0)) (h9 : P ({ t with list := t.list.tail }, 0)) (h10 : P ({ t with list := t.list.dropLast }, 0))
  (h11 : e.op = 11 → P ({ t with list := t.list.set e.num.toNat e.text }, 0)) (h11' : P (t, 4))
  (h12 : P ({ t with list := putF (fun x => decide (x = e.name)) (fun x => sless e.name x) e.name t.list false }, 0))
  (h13 : P ({ t with list := delF (fun x => decide (x = e.name)) t.list }, if t.list.any (fun x => decide (x = e.name)) then 0 else 5))
  (h14 : e.op = 14 → P ({ t with ranks := putF (fun x => decide (x.name = e.name)) (fun x => aheadR ⟨e.name, e.num⟩ x) ⟨e.name, e.num⟩ t.ranks false }, 0))
  (h15 : e.op = 15 → P ({ t with ranks := delF (fun x => decide (x.name = e.name)) t.ranks }, if t.ranks.any (fun x => decide (x.name = e.name)) then 0 else 5)) (h16 : P (t, 0)) : P (doneT t e) := by
 unfold doneT
 by_cases e1 : e.op = 1
 ·rw [if_pos e1]; exact h1
 rw [if_neg e1]
 by_cases e2 : e.op = 2
 ·rw [if_pos e2]; exact h2
 rw [if_neg e2]
 by_cases e3 : e.op = 3
 ·rw [if_pos e3]; exact h3
 rw [if_neg e3]
 by_cases e4 : e.op = 4
 ·rw [if_pos e4]; exact h4
 rw [if_neg e4]
 by_cases e5 : e.op = 5
 ·rw [if_pos e5]; exact h5 e5
 rw [if_neg e5]
 by_cases e6 : e.op = 6
 ·rw [if_pos e6]; exact h6 e6
 rw [if_neg e6]
 by_cases e7 : e.op = 7
 ·rw [if_pos e7]; exact h7 e7
 rw [if_neg e7]
 by_cases e8 : e.op = 8
 ·rw [if_pos e8]; exact h8 e8
 rw [if_neg e8]
 by_cases e9 : e.op = 9
 ·rw [if_pos e9]; exact h9
 rw [if_neg e9]
 by_cases e10 : e.op = 10
 ·rw [if_pos e10]; exact h10
 rw [if_neg e10]
 by_cases e11 : e.op = 11
 ·rw [if_pos e11]
  by_cases hh : 0 ≤ e.num ∧ e.num < t.list.length
  ·rw [if_pos hh]; exact h11 e11
  ·rw [if_neg hh]; exact h11'
 rw [if_neg e11]
 by_cases e12 : e.op = 12
 ·rw [if_pos e12]; exact h12
 rw [if_neg e12]
 by_cases e13 : e.op = 13
 ·rw [if_pos e13]; exact h13
 rw [if_neg e13]
 by_cases e14 : e.op = 14
 ·rw [if_pos e14]; exact h14 e14
 rw [if_neg e14]
 by_cases e15 : e.op = 15
 ·rw [if_pos e15]; exact h15 e15
 rw [if_neg e15]
 exact h16
def TUp (t : Thing) : Prop := (t.kind = 3 → t.pairs = [] ∧ t.ranks = []) ∧ (t.pairs.Pairwise fun a b => sless a.name b.name = true) ∧ (t.kind = 4 → t.list.Pairwise fun a b => sless a b = true) ∧ (t.ranks.Pairwise fun a b => aheadR a b = true) ∧ (t.ranks.map Rank.name).Nodup
theorem doneT_good {t : Thing} {e : Eff} (f : TGood t) (hk : OfKind t e) : TUp (doneT t e).1 := by
 have hp : ∀ x : Pair, decide (x.name = e.name) = false → sless e.name x.name = false → sless x.name e.name = true := fun x h1 h2 => sless_not h2 (fun h => by simp [h] at h1)
 have k3 : t.kind = 3 → t.kind ≠ 4 := fun h1 => by omega
 have z : ∀ t : Thing, t.pairs = [] → t.list = [] → t.ranks = [] → TUp t := fun t h1 h2 h3 => by
  unfold TUp
  rw [h1, h2, h3]
  exact ⟨fun _ => ⟨rfl, rfl⟩, List.Pairwise.nil, fun _ => List.Pairwise.nil, List.Pairwise.nil, List.nodup_nil⟩
 refine doneT_cases (P := fun r => TUp r.1) (z _ rfl rfl rfl) (z _ rfl rfl rfl) ⟨f.only, f.ps, f.ls, f.rs, f.once⟩ ⟨f.only, f.ps, f.ls, f.rs, f.once⟩ (fun h7 => ?_) (fun h7 => ?_) (fun h7 => ?_) (fun h7 => ?_)
  ⟨f.only, f.ps, fun k => (f.ls k).tail, f.rs, f.once⟩ ⟨f.only, f.ps, fun k => (f.ls k).sublist (List.dropLast_sublist _), f.rs, f.once⟩ (fun h7 => ?_) ⟨f.only, f.ps, f.ls, f.rs, f.once⟩ ⟨f.only, f.ps, fun k => ?_, f.rs, f.once⟩
  ⟨f.only, f.ps, fun k => (f.ls k).filter _, f.rs, f.once⟩ (fun h7 => ?_) (fun h7 => ?_) ⟨f.only, f.ps, f.ls, f.rs, f.once⟩
 ·have := hk ⟨true, true, false, 2, true, 189⟩ (by rw [h7]; rfl) (by decide)
  exact ⟨fun k => absurd k (by rw [this]; decide), putF_up (y := (⟨e.name, e.text⟩ : Pair)) (R := fun a b : Pair => sless a.name b.name = true) (fun x _ h => h) (fun x h1 h2 => hp x h1 h2) (fun a b c => sless_trans) f.ps, f.ls, f.rs, f.once⟩
 ·have := hk ⟨true, false, false, 2, false, 190⟩ (by rw [h7]; rfl) (by decide)
  exact ⟨fun k => absurd k (by rw [this]; decide), f.ps.filter _, f.ls, f.rs, f.once⟩
 ·have := hk ⟨false, true, false, 3, true, 191⟩ (by rw [h7]; rfl) (by decide)
  exact ⟨f.only, f.ps, fun k => absurd k (k3 this), f.rs, f.once⟩
 ·have := hk ⟨false, true, false, 3, true, 193⟩ (by rw [h7]; rfl) (by decide)
  exact ⟨f.only, f.ps, fun k => absurd k (k3 this), f.rs, f.once⟩
 ·have := hk ⟨false, true, true, 3, false, 196⟩ (by rw [h7]; rfl) (by decide)
  exact ⟨f.only, f.ps, fun k => absurd k (k3 this), f.rs, f.once⟩
 ·exact putF_up (y := e.name) (R := fun a b => sless a b = true) (fun x _ h => h) (fun x h1 h2 => sless_not h2 (fun h => by simp [h] at h1)) (fun a b c => sless_trans) (f.ls k)
 ·have := hk ⟨true, false, true, 5, true, 199⟩ (by rw [h7]; rfl) (by decide)
  exact ⟨fun k => absurd k (by rw [this]; decide), f.ps, f.ls, putF_up (y := (⟨e.name, e.num⟩ : Rank)) (R := fun a b => aheadR a b = true) (fun x _ h => h) (fun x h1 h2 => ahead_not h2 (fun h => by
   have : x.name = e.name := h.symm
   simp [this] at h1)) ahead_tr f.rs, nodup_putF (y := ⟨e.name, e.num⟩) f.once⟩
 ·have := hk ⟨true, false, false, 5, false, 200⟩ (by rw [h7]; rfl) (by decide)
  exact ⟨fun k => absurd k (by rw [this]; decide), f.ps, f.ls, f.rs.filter _, List.Nodup.sublist (List.Sublist.map _ List.filter_sublist) f.once⟩
theorem doneT_len {t : Thing} {e : Eff} : countT (doneT t e).1 ≤ countT t + 1 := by
 have h1 := putF_len (eq := fun x : Pair => decide (x.name = e.name)) (lt := fun x => sless e.name x.name) (y := ⟨e.name, e.text⟩) t.pairs false
 have h2 := putF_len (eq := fun x : ByteArray => decide (x = e.name)) (lt := fun x => sless e.name x) (y := e.name) t.list false
 have h3 := putF_len (eq := fun x : Rank => decide (x.name = e.name)) (lt := fun x => aheadR ⟨e.name, e.num⟩ x) (y := ⟨e.name, e.num⟩) t.ranks false
 have d1 : (delF (fun x : Pair => decide (x.name = e.name)) t.pairs).length ≤ t.pairs.length := List.length_filter_le _ _
 have d2 : (delF (fun x : ByteArray => decide (x = e.name)) t.list).length ≤ t.list.length := List.length_filter_le _ _
 have d3 : (delF (fun x : Rank => decide (x.name = e.name)) t.ranks).length ≤ t.ranks.length := List.length_filter_le _ _
 refine doneT_cases (P := fun r => countT r.1 ≤ countT t + 1) ?_ ?_ ?_ ?_ (fun _ => ?_) (fun _ => ?_) (fun _ => ?_) (fun _ => ?_) ?_ ?_ (fun _ => ?_) ?_ ?_ ?_ (fun _ => ?_) (fun _ => ?_) ?_
 all_goals simp only [countT, zeroT, textT, List.length_nil, List.length_cons, List.length_append, List.length_tail, List.length_dropLast, List.length_set]
 all_goals omega
theorem endF_put {r : Thing × Int} {there full : Bool} {t : Thing} (h : endF r there full = .put t) : t = r.1 ∧ r.2 = 0 ∧ countT t ≤ 65536 ∧ (t.kind = 1 ∨ countT t ≠ 0) ∧ (there = false → full = false) := by
 unfold endF at h
 split at h
 ·cases h
 ·rename_i h1
  split at h
  ·cases h
  ·rename_i h2
   split at h
   ·cases h
   ·rename_i h3
    injection h with h
    subst h
    refine ⟨rfl, Decidable.not_not.1 h1, by omega, ?_, fun ht => ?_⟩
    ·by_cases hk : r.1.kind = 1
     ·exact .inl hk
     ·exact .inr fun hc => h2 ⟨hk, hc⟩
    ·cases hf : full with
     |false => rfl
     |true => exact absurd (.inr ⟨ht, hf⟩) h3
theorem endF_in {t t' : Thing} {e : Eff} {there full : Bool} (f : TGood t) (hk : OfKind t e) (h : endF (doneT t e) there full = .put t') : TIn t' := by
 obtain ⟨rfl, _, h1, h2, _⟩ := endF_put h
 obtain ⟨u1, u2, u3, u4, u5⟩ := doneT_good f hk
 refine ⟨⟨u2, u3, u4, u5, u1, h1⟩, fun h3 e0 => ?_⟩
 rcases h2 with h2 | h2
 ·rw [h3] at h2; exact absurd h2 (by decide)
 ·obtain ⟨p1, p2⟩ := u1 h3
  exact h2 (by unfold countT; rw [p1, p2, e0]; rfl)
def InS (S : Space) : Prop := ∀ p ∈ S, TIn p.2
theorem oneF_in {S : Space} {e : Eff} {full : Bool} {t : Thing} (hi : InS S) (h : oneF (findS S e.key) e full = .put t) : TIn t := by
 unfold oneF at h
 cases hr : ruleR e.op with
 |none => rw [hr] at h; cases h
 |some r =>
  rw [hr] at h
  simp only at h
  split at h
  ·cases h
  split at h
  ·cases h
  cases hf : findS S e.key with
  |none =>
   rw [hf] at h
   simp only at h
   split at h
   ·cases h
   ·exact endF_in (TGood.zero _) (fun r' h1 _ => by rw [hr] at h1; injection h1 with h1; rw [h1]) h
  |some t0 =>
   rw [hf] at h
   simp only at h
   split at h
   ·cases h
   ·rename_i hk
    refine endF_in (hi _ (findS_mem hf)).good (fun r' h1 h2 => ?_) h
    rw [hr] at h1
    injection h1 with h1
    subst h1
    exact Decidable.not_not.1 fun hne => hk ⟨h2, hne⟩
theorem in_space {S : Space} {e : Eff} {full : Bool} (hi : InS S) : InS ((oneF (findS S e.key) e full).space S e.key) := by
 cases hf : oneF (findS S e.key) e full with
 |no n => exact hi
 |drop => exact fun p hp => hi p (mem_dropS.1 hp).1
 |put t =>
  intro p hp
  rcases mem_putS.1 hp with rfl | ⟨hp, _⟩
  ·exact oneF_in hi hf
  ·exact hi p hp
theorem rule_do {t : Thing} {e : Eff} {r : Rule} (hr : ruleR e.op = some r) (gd : TGood t) (hk : OfKind t e) (hne : e.op = 9 ∨ e.op = 10 → t.list ≠ []) : DoOK r.f t e := by
 unfold ruleR at hr
 by_cases h1 : e.op = 1
 ·rw [if_pos h1] at hr
  injection hr with hr
  rw [← hr]
  exact drop_do h1 gd
 rw [if_neg h1] at hr
 by_cases h2 : e.op = 2
 ·rw [if_pos h2] at hr
  injection hr with hr
  rw [← hr]
  exact text_do h2 gd
 rw [if_neg h2] at hr
 by_cases h3 : e.op = 3
 ·rw [if_pos h3] at hr
  injection hr with hr
  rw [← hr]
  exact until_do h3 gd
 rw [if_neg h3] at hr
 by_cases h4 : e.op = 4
 ·rw [if_pos h4] at hr
  injection hr with hr
  rw [← hr]
  exact keep_do h4 gd
 rw [if_neg h4] at hr
 by_cases h5 : e.op = 5
 ·rw [if_pos h5] at hr
  injection hr with hr
  rw [← hr]
  exact hash_do h5 gd
 rw [if_neg h5] at hr
 by_cases h6 : e.op = 6
 ·rw [if_pos h6] at hr
  injection hr with hr
  rw [← hr]
  exact unhash_do h6 gd
 rw [if_neg h6] at hr
 by_cases h7 : e.op = 7
 ·rw [if_pos h7] at hr
  injection hr with hr
  rw [← hr]
  exact head_do h7 gd
 rw [if_neg h7] at hr
 by_cases h8 : e.op = 8
 ·rw [if_pos h8] at hr
  injection hr with hr
  rw [← hr]
  exact tail_do h8 gd
 rw [if_neg h8] at hr
 by_cases h9 : e.op = 9
 ·rw [if_pos h9] at hr
  injection hr with hr
  rw [← hr]
  exact unhead_do h9 gd (hne (.inl h9))
 rw [if_neg h9] at hr
 by_cases h10 : e.op = 10
 ·rw [if_pos h10] at hr
  injection hr with hr
  rw [← hr]
  exact untail_do h10 gd (hne (.inr h10))
 rw [if_neg h10] at hr
 by_cases h11 : e.op = 11
 ·rw [if_pos h11] at hr
  injection hr with hr
  rw [← hr]
  exact at_do h11 gd
 rw [if_neg h11] at hr
 by_cases h12 : e.op = 12
 ·rw [if_pos h12] at hr
  injection hr with hr
  rw [← hr]
  exact add_do h12 gd (hk ⟨true, false, false, 4, true, 197⟩ (by rw [h12]; rfl) (by decide))
 rw [if_neg h12] at hr
 by_cases h13 : e.op = 13
 ·rw [if_pos h13] at hr
  injection hr with hr
  rw [← hr]
  exact remove_do h13 gd (hk ⟨true, false, false, 4, false, 198⟩ (by rw [h13]; rfl) (by decide))
 rw [if_neg h13] at hr
 by_cases h14 : e.op = 14
 ·rw [if_pos h14] at hr
  injection hr with hr
  rw [← hr]
  exact rank_do h14 gd
 rw [if_neg h14] at hr
 by_cases h15 : e.op = 15
 ·rw [if_pos h15] at hr
  injection hr with hr
  rw [← hr]
  exact unrank_do h15 gd
 rw [if_neg h15] at hr
 cases hr
theorem map_set {m : List KI} {j : Nat} {i : KI} {tb : Nat} {us : List Value} {t : Thing} (hj : m[j]? = some i) : (m.map KI.ent).modify j (fun e => { e with val := ptr tb }) = (m.set j ⟨i.key, tb, us, t, i.born⟩).map KI.ent := by
 induction m generalizing j with
 |nil => simp at hj
 |cons x m ih =>
  cases j with
  |zero =>
   simp at hj
   subst hj
   simp [KI.ent]
  |succ j =>
   have := ih (j := j) (by simpa using hj)
   simp only [List.map_cons, List.modify_succ_cons, List.set_cons_succ, this]
theorem map_erase {m : List KI} {j : Nat} : (m.map KI.ent).eraseIdx j = (m.eraseIdx j).map KI.ent := by
 induction m generalizing j with
 |nil => simp
 |cons x m ih =>
  cases j with
  |zero => simp
  |succ j => simp [ih]
theorem mem_set {m : List KI} {j : Nat} {i x y : KI} (hn : (m.map KI.key).Nodup) (hj : m[j]? = some i) : y ∈ m.set j x ↔ y = x ∨ (y ∈ m ∧ y.key ≠ i.key) := by
 induction m generalizing j with
 |nil => simp at hj
 |cons z m ih =>
  rw [List.map_cons, List.nodup_cons] at hn
  cases j with
  |zero =>
   simp at hj
   subst hj
   rw [List.set_cons_zero, List.mem_cons, List.mem_cons]
   constructor
   ·rintro (h | h)
    ·exact .inl h
    ·exact .inr ⟨.inr h, fun e => hn.1 (by rw [← e]; exact List.mem_map_of_mem h)⟩
   ·rintro (h | ⟨h | h, hk⟩)
    ·exact .inl h
    ·exact absurd (by rw [h]) hk
    ·exact .inr h
  |succ j =>
   have hj' : m[j]? = some i := by simpa using hj
   have := ih hn.2 hj'
   rw [List.set_cons_succ, List.mem_cons, List.mem_cons, this]
   have hi := List.mem_of_getElem? hj'
   constructor
   ·rintro (h | h | ⟨h, hk⟩)
    ·exact .inr ⟨.inl h, fun e => hn.1 (by rw [← h, e]; exact List.mem_map_of_mem hi)⟩
    ·exact .inl h
    ·exact .inr ⟨.inr h, hk⟩
   ·rintro (h | ⟨h | h, hk⟩)
    ·exact .inr (.inl h)
    ·exact .inl h
    ·exact .inr (.inr ⟨h, hk⟩)
theorem mem_erase {m : List KI} {j : Nat} {i y : KI} (hn : (m.map KI.key).Nodup) (hj : m[j]? = some i) : y ∈ m.eraseIdx j ↔ y ∈ m ∧ y.key ≠ i.key := by
 induction m generalizing j with
 |nil => simp at hj
 |cons z m ih =>
  rw [List.map_cons, List.nodup_cons] at hn
  cases j with
  |zero =>
   simp at hj
   subst hj
   rw [List.eraseIdx_cons_zero, List.mem_cons]
   constructor
   ·exact fun h => ⟨.inr h, fun e => hn.1 (by rw [← e]; exact List.mem_map_of_mem h)⟩
   ·rintro ⟨h | h, hk⟩
    ·exact absurd (by rw [h]) hk
    ·exact h
  |succ j =>
   have hj' : m[j]? = some i := by simpa using hj
   have hi := List.mem_of_getElem? hj'
   rw [List.eraseIdx_cons_succ, List.mem_cons, List.mem_cons, ih hn.2 hj']
   constructor
   ·rintro (h | ⟨h, hk⟩)
    ·exact ⟨.inl h, fun e => hn.1 (by rw [← h, e]; exact List.mem_map_of_mem hi)⟩
    ·exact ⟨.inr h, hk⟩
   ·rintro ⟨h | h, hk⟩
    ·exact .inl h
    ·exact .inr ⟨h, hk⟩
theorem KR.turn {h h' : Heap} {kb sb mb c tb j : Nat} {m : List KI} {i : KI} {us : List Value} {t : Thing} (x : KR h kb sb mb c m) (hj : m[j]? = some i)
  (p : PutO h h' mb (.map ⟨(m.map KI.ent).modify j (fun e => { e with val := ptr tb })⟩ c)) (B : Blk h tb us) (tx : TH h us t) (n : Lens t) :
  KR h' kb sb mb c (m.set j ⟨i.key, tb, us, t, i.born⟩) := by
 have ch := ch_putO x.map p
 have hi := List.mem_of_getElem? hj
 have km : ∀ {β : Type} (f : KI → β), f ⟨i.key, tb, us, t, i.born⟩ = f i → (m.set j ⟨i.key, tb, us, t, i.born⟩).map f = m.map f := fun f hf => by
  rw [List.map_set, hf]
  have : (m.map f)[j]? = some (f i) := by rw [List.getElem?_map, hj]; rfl
  rw [List.getElem?_eq_some_iff] at this
  obtain ⟨hlt, he⟩ := this
  rw [← he]; exact List.set_getElem_self hlt
 refine ⟨x.ks.ch ch, ?_, fun y hy => ?_, ?_, fun y hy => ?_, ?_, fun y hy => ?_, by rw [List.length_set]; exact x.len⟩
 ·show h'[mb]? = _
  rw [p.blk, map_set (us := us) (t := t) hj]
 ·rcases (mem_set x.nodup hj).1 hy with rfl | ⟨hy, _⟩
  ·exact ⟨ch.blk _ _ B, tx.ch ch, n⟩
  ·obtain ⟨h1, h2, h3⟩ := x.here y hy
   exact ⟨ch.blk _ _ h1, h2.ch ch, h3⟩
 ·rw [km KI.key rfl]; exact x.nodup
 ·rcases (mem_set x.nodup hj).1 hy with rfl | ⟨hy, _⟩
  ·exact x.born i hi
  ·exact x.born y hy
 ·rw [km KI.born rfl]; exact x.borns
 ·rcases (mem_set x.nodup hj).1 hy with rfl | ⟨hy, _⟩
  ·exact x.keys i hi
  ·exact x.keys y hy
theorem KR.erase {h h' : Heap} {kb sb mb c j : Nat} {m : List KI} (x : KR h kb sb mb c m) (p : PutO h h' mb (.map ⟨(m.map KI.ent).eraseIdx j⟩ c)) : KR h' kb sb mb c (m.eraseIdx j) := by
 have ch := ch_putO x.map p
 have sub : (m.eraseIdx j).Sublist m := List.eraseIdx_sublist m j
 refine ⟨x.ks.ch ch, ?_, fun y hy => ?_, x.nodup.sublist (sub.map _), fun y hy => x.born y (sub.subset hy), x.borns.sublist (sub.map _), fun y hy => x.keys y (sub.subset hy), Nat.le_trans sub.length_le x.len⟩
 ·show h'[mb]? = _
  rw [p.blk, map_erase]
 ·obtain ⟨h1, h2, h3⟩ := x.here y (sub.subset hy)
  exact ⟨ch.blk _ _ h1, h2.ch ch, h3⟩
def FateM (key : ByteArray) (m m' : List KI) : Fate → Prop
 |.no _ => m'.map KI.pr = m.map KI.pr
 |.drop => ∀ p, p ∈ m'.map KI.pr ↔ p ∈ m.map KI.pr ∧ p.1 ≠ key
 |.put t => ∀ p, p ∈ m'.map KI.pr ↔ p = (key, t) ∨ (p ∈ m.map KI.pr ∧ p.1 ≠ key)
theorem mem_pr {m : List KI} {p : ByteArray × Thing} : p ∈ m.map KI.pr ↔ ∃ i ∈ m, i.key = p.1 ∧ i.thing = p.2 := by
 rw [List.mem_map]
 constructor
 ·rintro ⟨i, hi, rfl⟩; exact ⟨i, hi, rfl, rfl⟩
 ·rintro ⟨i, hi, h1, h2⟩; exact ⟨i, hi, by cases p; simp_all [KI.pr]⟩
theorem fate_set {m : List KI} {j tb : Nat} {i : KI} {us : List Value} {t : Thing} (hn : (m.map KI.key).Nodup) (hj : m[j]? = some i) : FateM i.key m (m.set j ⟨i.key, tb, us, t, i.born⟩) (.put t) := by
 intro p
 rw [mem_pr, mem_pr]
 constructor
 ·rintro ⟨y, hy, h1, h2⟩
  rcases (mem_set hn hj).1 hy with rfl | ⟨hy, hk⟩
  ·exact .inl (by cases p; simp_all)
  ·exact .inr ⟨⟨y, hy, h1, h2⟩, fun e => hk (h1.trans e)⟩
 ·rintro (rfl | ⟨⟨y, hy, h1, h2⟩, hk⟩)
  ·exact ⟨_, (mem_set hn hj).2 (.inl rfl), rfl, rfl⟩
  ·exact ⟨y, (mem_set hn hj).2 (.inr ⟨hy, fun e => hk (h1.symm.trans e)⟩), h1, h2⟩
theorem fate_new {m : List KI} {tb b : Nat} {key : ByteArray} {us : List Value} {t : Thing} (hn : ∀ i ∈ m, i.key ≠ key) : FateM key m (m ++ [⟨key, tb, us, t, b⟩]) (.put t) := by
 intro p
 rw [mem_pr, mem_pr]
 constructor
 ·rintro ⟨y, hy, h1, h2⟩
  rcases List.mem_append.1 hy with hy | hy
  ·exact .inr ⟨⟨y, hy, h1, h2⟩, fun e => hn y hy (h1.trans e)⟩
  ·rw [List.mem_singleton] at hy
   subst hy
   exact .inl (by cases p; simp_all)
 ·rintro (rfl | ⟨⟨y, hy, h1, h2⟩, hk⟩)
  ·exact ⟨_, List.mem_append_right _ (List.mem_singleton.2 rfl), rfl, rfl⟩
  ·exact ⟨y, List.mem_append_left _ hy, h1, h2⟩
theorem fate_erase {m : List KI} {j : Nat} {i : KI} (hn : (m.map KI.key).Nodup) (hj : m[j]? = some i) : FateM i.key m (m.eraseIdx j) .drop := by
 intro p
 rw [mem_pr, mem_pr]
 constructor
 ·rintro ⟨y, hy, h1, h2⟩
  obtain ⟨hy, hk⟩ := (mem_erase hn hj).1 hy
  exact ⟨⟨y, hy, h1, h2⟩, fun e => hk (h1.trans e)⟩
 ·rintro ⟨⟨y, hy, h1, h2⟩, hk⟩
  exact ⟨y, (mem_erase hn hj).2 ⟨hy, fun e => hk (h1.symm.trans e)⟩, h1, h2⟩
theorem fate_none {m : List KI} {key : ByteArray} (hn : ∀ i ∈ m, i.key ≠ key) : FateM key m m .drop := by
 intro p
 constructor
 ·exact fun h => ⟨h, by obtain ⟨i, hi, h1, _⟩ := mem_pr.1 h; rw [← h1]; exact hn i hi⟩
 ·exact fun h => h.1
def OneP (h0 : Heap) (kb sb mb : Nat) (key : ByteArray) (m : List KI) (f : Fate) (r : Value) (h' : Heap) : Prop :=
 r = .int .i64 f.num ∧ ∃ c' m', KR h' kb sb mb c' m' ∧ FateM key m m' f ∧ Chg [mb] h0 h'
theorem one_no {h0 h' : Heap} {kb sb mb c : Nat} {key : ByteArray} {m : List KI} {n : Int} (kr : KR h0 kb sb mb c m) (c0 : Chg [] h0 h') : OneP h0 kb sb mb key m (.no n) (.int .i64 n) h' :=
 ⟨rfl, c, m, kr.ext c0, rfl, c0.mono (by simp)⟩
def ruleC (r : Rule) : List Value := [.bool r.name, .bool r.text, .bool r.number, .int .i64 r.kind, .bool r.makes, .func (.func r.f) #[] #[]]
theorem oneG_tail {h0 h : Heap} {kb sb mb c b3 b5 b7 : Nat} {m : List KI} {e : Eff} {r : Rule} {t : Thing} {there : Bool} {pv lv rv : Value} (kr : KR h0 kb sb mb c m) (c0 : Chg [] h0 h) (B3 : Blk h b3 (encD e)) (B5 : Blk h b5 (ruleC r))
  (T7 : Blk h b7 (cellsT t pv lv rv)) (o7 : TO h pv lv rv t) (h7 : b7 ∉ bl3 pv lv rv) (f7 : h0.size ≤ b7) (fb : ∀ b ∈ bl3 pv lv rv, h0.size ≤ b) (h3 : b3 ∉ b7 :: bl3 pv lv rv) (gd : TGood t) (hd : DoOK r.f t e) (hkey : e.key.size ≤ 1048576)
  (ht : if there = true then ∃ i ∈ m, i.key = e.key else ∀ i ∈ m, i.key ≠ e.key) :
  swp Tryz.prog (.seq (.seq (.ops f43r13) (.seq (.ops f43r14) (.cond (.tmp 95) (.seq (.ops f43r15) .ret) .skip))) (.seq (.block 1 (.seq (.ops f43r16) (.cond (.tmp 106) (.ops f43r17) (.seq (.ops f43r18) (.cond (.tmp 124) (.seq (.ops f43r19) .ret) (.ops f43r20)))))) (.seq (.ops f43r21) .ret)))
   (retQ [.t 4] (Ret (OneP h0 kb sb mb e.key m (endF (doneT t e) there (decide (65536 ≤ m.length)))))) (mk [(0, ptr kb), (3, ptr b3), (5, ptr b5), (7, ptr b7), (8, .bool there)]) [] h := by
 have hle := c0.size
 have clen := doneT_len (t := t) (e := e)
 have cfew := gd.few
 refine Ei _ (Ai (cell_blk B5 rfl) ?_)
 refine Ei (encD e) (Ai rfl (Ai (cells_blk B3) ?_))
 refine call_ret (hd h b7 pv lv rv T7 o7 h7) ?_
 rintro _ h6 ⟨rfl, hok, c6⟩
 have c06 : Chg [] h0 h6 := c0.fresh c6 (fun k hk => by
  rcases List.mem_cons.1 hk with rfl | hk
  ·exact f7
  ·exact fb k hk)
 generalize hres : doneT t e = res at *
 refine Ai rfl (Ai (fun hne => ?_) (fun hne => ?_))
 ·have ef : endF res there (decide (65536 ≤ m.length)) = .no res.2 := by unfold endF; rw [if_pos hne]
  rw [ef]
  exact one_no kr c06
 have hz : res.2 = 0 := Decidable.not_not.1 hne
 obtain ⟨ws, W6, x6, hws⟩ := hok hz
 have kr6 := kr.ext c06
 have B36 := B3.chg c6 h3
 obtain ⟨pv', lv', rv', hwse, sp, sl, sr⟩ := x6
 have x6 : TH h6 ws res.1 := ⟨pv', lv', rv', hwse, sp, sl, sr⟩
 have hlens : Lens res.1 := by
  unfold countT at clen cfew
  exact ⟨by omega, by omega, by omega⟩
 have K6 : cell h6 b7 0 = some (.int .i64 res.1.kind) := by
  refine cell_blk W6 ?_
  rw [hwse]; rfl
 have drop_ : res.1.kind ≠ 1 ∧ countT res.1 = 0 → ∀ (h8 : Heap), Chg [] h6 h8 →
   swp Tryz.prog (.cond (.tmp 106) (.ops f43r17) (.seq (.ops f43r18) (.cond (.tmp 124) (.seq (.ops f43r19) .ret) (.ops f43r20)))) (blockQ 1 (thenQ (swp Tryz.prog (.seq (.ops f43r21) .ret) (retQ [.t 4] (Ret (OneP h0 kb sb mb e.key m (endF res there (decide (65536 ≤ m.length))))))) (retQ [.t 4] (Ret (OneP h0 kb sb mb e.key m (endF res there (decide (65536 ≤ m.length)))))))) (mk [(0, ptr kb), (3, ptr b3), (7, ptr b7), (8, .bool there), (106, .bool true)]) [] h8 := by
  intro hem h8 c8
  have ef : endF res there (decide (65536 ≤ m.length)) = .drop := by unfold endF; rw [if_neg hne, if_pos hem]
  rw [ef]
  have kr8 := kr6.ext c8
  have B38 := B36.chg c8 (by simp)
  refine Ei _ (Ai (cell_blk kr8.ks.k rfl) (Ei _ (Ai (cell_blk kr8.ks.s rfl) ?_)))
  refine Ei _ (Ai (cell_blk B38 rfl) ?_)
  refine Ai rfl (Ei (m.map KI.ent) (Ei c (Ai kr8.map (Ai (ents_fit m) ?_))))
  rcases mfind_ents e.key m 0 with ⟨hmf, hno⟩ | ⟨j, i, hmf, hj, hik⟩
  ·rw [hmf]
   intro h9 p9
   refine Ai rfl (Ei c (Ei m (Ai ?_ (Ai (fate_none hno) (((c06.nil c8).mono (by simp)).step p9.chg (by simp))))))
   have ch := ch_putO kr8.map p9
   exact ⟨kr8.ks.ch ch, p9.blk, fun y hy => let ⟨a1, a2, a3⟩ := kr8.here y hy; ⟨ch.blk _ _ a1, a2.ch ch, a3⟩, kr8.nodup, kr8.born, kr8.borns, kr8.keys, kr8.len⟩
  ·rw [hmf, Nat.zero_add]
   intro h9 p9
   refine Ai rfl (Ei c (Ei (m.eraseIdx j) (Ai (kr8.erase p9) (Ai ?_ (((c06.nil c8).mono (by simp)).step p9.chg (by simp))))))
   rw [← hik]
   exact fate_erase kr8.nodup hj
 have rest_ : ¬ (res.1.kind ≠ 1 ∧ countT res.1 = 0) → ∀ (h8 : Heap), Chg [] h6 h8 →
   swp Tryz.prog (.cond (.tmp 106) (.ops f43r17) (.seq (.ops f43r18) (.cond (.tmp 124) (.seq (.ops f43r19) .ret) (.ops f43r20)))) (blockQ 1 (thenQ (swp Tryz.prog (.seq (.ops f43r21) .ret) (retQ [.t 4] (Ret (OneP h0 kb sb mb e.key m (endF res there (decide (65536 ≤ m.length))))))) (retQ [.t 4] (Ret (OneP h0 kb sb mb e.key m (endF res there (decide (65536 ≤ m.length)))))))) (mk [(0, ptr kb), (3, ptr b3), (7, ptr b7), (8, .bool there), (106, .bool false)]) [] h8 := by
  intro hem h8 c8
  have kr8 := kr6.ext c8
  have B38 := B36.chg c8 (by simp)
  have W8 := W6.chg c8 (by simp)
  have x8 := x6.ext c8
  refine Ei ws (Ai x8.len (Ai (cells_blk W8) ?_))
  refine call_ret (count_calls x8 hlens) ?_
  rintro _ h9 ⟨rfl, c9⟩
  have kr9 := kr8.ext c9
  have B39 := B38.chg c9 (by simp)
  have W9 := W8.chg c9 (by simp)
  have x9 := x8.ext c9
  have c09 := (c06.nil c8).nil c9
  have last : ¬ (65536 < countT res.1 ∨ (there = false ∧ decide (65536 ≤ m.length) = true)) →
    swp Tryz.prog (.cond (.tmp 124) (.seq (.ops f43r19) .ret) (.ops f43r20)) (blockQ 1 (thenQ (swp Tryz.prog (.seq (.ops f43r21) .ret) (retQ [.t 4] (Ret (OneP h0 kb sb mb e.key m (endF res there (decide (65536 ≤ m.length))))))) (retQ [.t 4] (Ret (OneP h0 kb sb mb e.key m (endF res there (decide (65536 ≤ m.length)))))))) (mk [(0, ptr kb), (3, ptr b3), (7, ptr b7), (8, .bool there), (124, .bool false)]) [] h9 := by
   intro hbig
   have ef : endF res there (decide (65536 ≤ m.length)) = .put res.1 := by unfold endF; rw [if_neg hne, if_neg hem, if_neg hbig]
   rw [ef]
   refine Ei _ (Ai (cell_blk kr9.ks.k rfl) (Ei _ (Ai (cell_blk kr9.ks.s rfl) ?_)))
   refine Ei _ (Ai (cell_blk B39 rfl) ?_)
   refine Ai rfl (Ei (m.map KI.ent) (Ei c (Ai kr9.map (Ai (ents_fit m) ?_))))
   rcases mfind_ents e.key m 0 with ⟨hmf, hno⟩ | ⟨j, i, hmf, hj, hik⟩
   ·rw [hmf]
    intro h10 p10
    have hth : there = false := by
     cases hb : there with
     |false => rfl
     |true =>
      rw [hb, if_pos rfl] at ht
      obtain ⟨i, hi, hk⟩ := ht
      exact absurd hk (hno i hi)
    have hml : m.length < 65536 := by
     rcases Nat.lt_or_ge m.length 65536 with h | h
     ·exact h
     ·exact absurd (.inr ⟨hth, decide_eq_true h⟩) hbig
    exact Ai rfl (Ei _ (Ei _ (Ai (kr9.put p10 hno hkey W9 x9 hlens hml) (Ai (fate_new hno) ((c09.mono (by simp)).step p10.chg (by simp))))))
   ·rw [hmf, Nat.zero_add]
    intro h10 p10
    refine Ai rfl (Ei _ (Ei _ (Ai (kr9.turn hj p10 W9 x9 hlens) (Ai ?_ ((c09.mono (by simp)).step p10.chg (by simp))))))
    rw [← hik]
    exact fate_set kr9.nodup hj
  refine Ai rfl (Ai (fun hb => ?_) (fun hb => ?_))
  ·have hb : 65536 < countT res.1 := by omega
   have ef : endF res there (decide (65536 ≤ m.length)) = .no 3 := by unfold endF; rw [if_neg hne, if_neg hem, if_pos (.inl hb)]
   rw [ef]
   exact one_no kr c09
  have hb : ¬ 65536 < countT res.1 := by omega
  cases there with
  |true =>
   refine cut_in [(0, ptr kb), (3, ptr b3), (7, ptr b7), (8, .bool true), (124, .bool false)] (mono_blockQ (mono_thenQ (fun σ σ' ds h hs hh => swp_sub _ _ σ σ' ds h mono_retQ hs hh) mono_retQ)) ⟨rfl, rfl, rfl, rfl, rfl, trivial⟩ (last ?_)
   rintro (h | ⟨h, _⟩)
   ·exact hb h
   ·cases h
  |false =>
   refine Ei _ (Ai (cell_blk kr9.ks.k rfl) (Ei _ (Ai (cell_blk kr9.ks.s rfl) ?_)))
   refine Ei (m.map KI.ent) (Ei c (Ai kr9.map ?_))
   rw [List.length_map]
   refine Ai rfl (Ai (fun hful => ?_) (fun hful => ?_))
   ·have ef : endF res false (decide (65536 ≤ m.length)) = .no 3 := by unfold endF; rw [if_neg hne, if_neg hem, if_pos (.inr ⟨rfl, decide_eq_true (by omega)⟩)]
    rw [ef]
    exact one_no kr c09
   ·refine cut_in [(0, ptr kb), (3, ptr b3), (7, ptr b7), (8, .bool false), (124, .bool false)] (mono_blockQ (mono_thenQ (fun σ σ' ds h hs hh => swp_sub _ _ σ σ' ds h mono_retQ hs hh) mono_retQ)) ⟨rfl, rfl, rfl, rfl, rfl, trivial⟩ (last ?_)
    rintro (h | ⟨_, h⟩)
    ·exact hb h
    ·have := of_decide_eq_true h; omega
 refine Ei _ (Ai K6 ?_)
 refine Ai rfl (Ai (fun hk1 => ?_) (fun hk1 => ?_))
 ·refine Ei ws (Ai x6.len (Ai (cells_blk W6) ?_))
  refine call_ret (count_calls x6 hlens) ?_
  rintro _ h8 ⟨rfl, c8⟩
  refine Ai rfl (Ai (fun hc0 => ?_) (fun hc0 => ?_))
  ·exact cut_in [(0, ptr kb), (3, ptr b3), (7, ptr b7), (8, .bool there), (106, .bool true)] (mono_blockQ (mono_thenQ (fun σ σ' ds h hs hh => swp_sub _ _ σ σ' ds h mono_retQ hs hh) mono_retQ)) ⟨rfl, rfl, rfl, rfl, rfl, trivial⟩ (drop_ ⟨hk1, by omega⟩ h8 c8)
  ·exact cut_in [(0, ptr kb), (3, ptr b3), (7, ptr b7), (8, .bool there), (106, .bool false)] (mono_blockQ (mono_thenQ (fun σ σ' ds h hs hh => swp_sub _ _ σ σ' ds h mono_retQ hs hh) mono_retQ)) ⟨rfl, rfl, rfl, rfl, rfl, trivial⟩ (rest_ (fun h => hc0 (by omega)) h8 c8)
 ·exact cut_in [(0, ptr kb), (3, ptr b3), (7, ptr b7), (8, .bool there), (106, .bool false)] (mono_blockQ (mono_thenQ (fun σ σ' ds h hs hh => swp_sub _ _ σ σ' ds h mono_retQ hs hh) mono_retQ)) ⟨rfl, rfl, rfl, rfl, rfl, trivial⟩ (rest_ (fun h => h.1 (Decidable.not_not.1 hk1)) h6 (Chg.refl h6))
theorem key_uniq {m : List KI} (hn : (m.map KI.key).Nodup) {i j : KI} (hi : i ∈ m) (hj : j ∈ m) (he : i.key = j.key) : i = j := by
 induction m with
 |nil => simp at hi
 |cons x m ih =>
  rw [List.map_cons, List.nodup_cons] at hn
  rcases List.mem_cons.1 hi with e1 | g1
  ·rcases List.mem_cons.1 hj with e2 | g2
   ·rw [e1, e2]
   ·exact absurd (by rw [← e1, he]; exact List.mem_map_of_mem g2) hn.1
  ·rcases List.mem_cons.1 hj with e2 | g2
   ·exact absurd (by rw [← e2, ← he]; exact List.mem_map_of_mem g1) hn.1
   ·exact ih hn.2 g1 g2
theorem LookK_calls {h : Heap} {kb sb mb c : Nat} {m : List KI} (key : ByteArray) (x : KR h kb sb mb c m) :
  CallsH Tryz.prog 110 [ptr kb, .string key] h (Ret fun r h' => ((∃ i ∈ m, i.key = key ∧ ∃ pv lv rv, r = .tuple #[.agg ⟨cellsT i.thing pv lv rv⟩, .bool true] ∧ TO h' pv lv rv i.thing ∧ ∀ b ∈ bl3 pv lv rv, h.size ≤ b) ∨
   ((∀ i ∈ m, i.key ≠ key) ∧ r = .tuple #[.agg ⟨zeroV⟩, .bool false])) ∧ Chg [] h h') := by
 rcases mfind_ents key m 0 with ⟨hmf, hno⟩ | ⟨j, i, hmf, hj, hik⟩
 ·refine (Look_none x.ks x.map (ents_fit m) hmf).mono fun e h' he => ?_
  cases e with
  |returned v => exact ⟨.inr ⟨hno, he.1⟩, he.2⟩
  |panicked ch => exact he.elim
  |outgrown => exact he.elim
 have hi : i ∈ m := List.mem_of_getElem? hj
 obtain ⟨Bi, ti, ni⟩ := x.here i hi
 refine f110_calls (by simp) ?_
 intro b4 h1 g1
 have hc := g1.chg
 have x1 := x.ext hc
 refine call_ret (none_calls x1.ks) ?_
 rintro _ h9 ⟨rfl, e9⟩
 have e9 := e9.symm
 subst e9
 refine Ei _ (Ai (cell_blk x1.ks.k rfl) (Ei _ (Ai (cell_blk x1.ks.s rfl) ?_)))
 refine Ai rfl (Ei (m.map KI.ent) (Ei c (Ai x1.map (Ai (ents_fit m) ?_))))
 rw [hmf]
 refine Ei _ (Ai (cell_blk x1.ks.k rfl) (Ei _ (Ai (cell_blk x1.ks.s rfl) ?_)))
 refine Ai rfl (Ei (m.map KI.ent) (Ei c (Ai x1.map (Ai (ents_fit m) ?_))))
 rw [hmf]
 have B1 := Bi.chg hc (by simp)
 have t1 := ti.ext hc
 refine Ei i.vs (Ai t1.len (Ai (cells_blk B1) ?_))
 refine call_ret (copied_own t1 ni) ?_
 rintro _ h2 ⟨⟨pv, lv, rv, rfl, o2, fr⟩, hc2⟩
 have Bz : Blk h2 b4 zeroV := (show Blk h1 b4 zeroV from g1.blk).chg hc2 (by simp)
 refine Ei _ (Ai Bz (Ai (by decide) (Ai rfl (Ai (thing_one o2.th) ?_))))
 intro h3 p3
 have i4 := g1.id
 have z4 := g1.size
 have B3 : Blk h3 b4 (cellsT i.thing pv lv rv) := p3.blk
 refine Ei _ (Ai rfl (Ai (cells_blk B3) ?_))
 refine Ai (.inl ⟨i, hi, hik, pv, lv, rv, rfl, o2.chg p3.chg (fun b hb => by have := fr b hb; simp; omega), fun b hb => by have := fr b hb; omega⟩) ((hc.nil hc2).fresh p3.chg (by simp; omega))
theorem TO.nil {h : Heap} {t : Thing} (h1 : t.pairs = []) (h2 : t.list = []) (h3 : t.ranks = []) : TO h (.slice none 0 0) (.slice none 0 0) (.slice none 0 0) t :=
 ⟨by rw [h1]; exact OL.nil, by rw [h2]; exact OL.nil, by rw [h3]; exact OL.nil, by simp [vblk, ablk], by simp [vblk, ablk], by simp [vblk, ablk]⟩
def OldM (m : List KI) (key : ByteArray) : Option Thing → Prop
 |some t => ∃ i ∈ m, i.key = key ∧ i.thing = t
 |none => ∀ i ∈ m, i.key ≠ key
def choose_ (r : Rule) (old : Option Thing) (e : Eff) (full : Bool) : Fate :=
 match old with
 |none => if r.makes = false then .no 5 else endF (doneT { zeroT with kind := r.kind } e) false full
 |some t => if r.kind ≠ 0 ∧ t.kind ≠ r.kind then .no 170 else endF (doneT t e) true full
theorem oneG_look {h0 h : Heap} {kb sb mb c b3 b5 : Nat} {m : List KI} {e : Eff} {r : Rule} {old : Option Thing} (kr : KR h0 kb sb mb c m) (c0 : Chg [] h0 h) (B3 : Blk h b3 (encD e)) (B5 : Blk h b5 (ruleC r))
  (hr : ruleR e.op = some r) (hin : ∀ i ∈ m, TIn i.thing) (hold : OldM m e.key old) (hkey : e.key.size ≤ 1048576) :
  swp Tryz.prog (.seq (.ops f43r6) (.seq (.block 0 (.seq (.ops f43r7) (.cond (.tmp 65) (.seq (.ops f43r8) .ret) (.seq (.ops f43r9) (.cond (.tmp 73) (.ops f43r10) (.seq (.ops f43r11) (.cond (.tmp 79) (.seq (.ops f43r12) .ret) .skip))))))) (.seq (.seq (.ops f43r13) (.seq (.ops f43r14) (.cond (.tmp 95) (.seq (.ops f43r15) .ret) .skip))) (.seq (.block 1 (.seq (.ops f43r16) (.cond (.tmp 106) (.ops f43r17) (.seq (.ops f43r18) (.cond (.tmp 124) (.seq (.ops f43r19) .ret) (.ops f43r20)))))) (.seq (.ops f43r21) .ret)))))
   (retQ [.t 4] (Ret (OneP h0 kb sb mb e.key m (choose_ r old e (decide (65536 ≤ m.length)))))) (mk [(0, ptr kb), (3, ptr b3), (5, ptr b5)]) [] h := by
 have kr1 := kr.ext c0
 have l3 := B3.lt
 have l5 := B5.lt
 have hs0 := c0.size
 refine Ei _ (Ai (cell_blk B3 rfl) ?_)
 refine call_ret (LookK_calls e.key kr1) ?_
 rintro _ h2 ⟨hlook, c2⟩
 have s2 := c2.size
 rcases hlook with ⟨i, hi, hik, pv, lv, rv, rfl, o2, fr⟩ | ⟨hno, rfl⟩
 ·-- there
  cases hold' : old with
  |none => rw [hold'] at hold; exact absurd hik (hold i hi)
  |some t =>
  rw [hold'] at hold
  obtain ⟨i', hi', hik', hit'⟩ := hold
  have : i' = i := key_uniq kr.nodup hi' hi (hik'.trans hik.symm)
  subst this
  rw [hit'] at o2 ⊢
  have tin := hin i' hi'
  rw [hit'] at tin
  intro b7 h3 g3
  refine Ei _ (Ai g3.blk (Ai (by decide) (Ai rfl (Ai (thing_one o2.th) ?_))))
  intro h4 p4
  have g4 := g3.put p4
  have B7 : Blk h4 b7 (cellsT t pv lv rv) := p4.blk
  have c4 := g4.chg
  have i7 := g4.id
  have B34 := (B3.chg c2 (by simp)).chg c4 (by simp)
  have B54 := (B5.chg c2 (by simp)).chg c4 (by simp)
  have o4 := o2.chg c4 (by simp)
  have c04 := (c0.nil c2).nil c4
  have lo2 := o2
  have n7 : b7 ∉ bl3 pv lv rv := fun hb => by
   simp only [bl3, List.mem_append] at hb
   rcases hb with hb | hb | hb
   ·have := o2.p.lt b7 hb; omega
   ·have := o2.l.lt b7 hb; omega
   ·have := o2.r.lt b7 hb; omega
  have go : (r.kind ≠ 0 → t.kind = r.kind) →
    swp Tryz.prog (.seq (.seq (.ops f43r13) (.seq (.ops f43r14) (.cond (.tmp 95) (.seq (.ops f43r15) .ret) .skip))) (.seq (.block 1 (.seq (.ops f43r16) (.cond (.tmp 106) (.ops f43r17) (.seq (.ops f43r18) (.cond (.tmp 124) (.seq (.ops f43r19) .ret) (.ops f43r20)))))) (.seq (.ops f43r21) .ret)))
     (retQ [.t 4] (Ret (OneP h0 kb sb mb e.key m (choose_ r (some t) e (decide (65536 ≤ m.length)))))) (mk [(0, ptr kb), (3, ptr b3), (5, ptr b5), (7, ptr b7), (8, .bool true)]) [] h4 := by
   intro hk
   have ef : choose_ r (some t) e (decide (65536 ≤ m.length)) = endF (doneT t e) true (decide (65536 ≤ m.length)) := by
    show (if r.kind ≠ 0 ∧ t.kind ≠ r.kind then Fate.no 170 else endF (doneT t e) true (decide (65536 ≤ m.length))) = _
    rw [if_neg fun h => h.2 (hk h.1)]
   rw [ef]
   have ok : OfKind t e := fun r' h1 h2 => by
    rw [hr] at h1
    injection h1 with h1
    subst h1
    exact hk h2
   refine oneG_tail kr c04 B34 B54 B7 o4 n7 (by omega) (fun b hb => by have := fr b hb; omega) ?_ tin.good (rule_do hr tin.good ok fun h9 => tin.some ?_) hkey (by rw [if_pos rfl]; exact ⟨i', hi', hik'⟩)
   ·rw [List.mem_cons, not_or]
    exact ⟨by omega, fun hb => by have := fr b3 hb; omega⟩
   ·have hr' := hr
    rcases h9 with h9 | h9
    ·rw [h9] at hr'
     exact ok r hr (by injection hr' with e'; rw [← e']; decide) |>.trans (by injection hr' with e'; rw [← e'])
    ·rw [h9] at hr'
     exact ok r hr (by injection hr' with e'; rw [← e']; decide) |>.trans (by injection hr' with e'; rw [← e'])
  refine Ei _ (Ai (cell_blk B54 rfl) ?_)
  refine Ai rfl (Ai (fun hk0 => ?_) (fun hk0 => ?_))
  ·refine Ei _ (Ai (cell_blk B7 rfl) (Ei _ (Ai (cell_blk B54 rfl) ?_)))
   refine Ai rfl (Ai (fun hne => ?_) (fun hne => ?_))
   ·have ef : choose_ r (some t) e (decide (65536 ≤ m.length)) = .no 170 := if_pos ⟨hk0, hne⟩
    rw [ef]
    exact one_no kr c04
   ·exact cut_at [(0, ptr kb), (3, ptr b3), (5, ptr b5), (7, ptr b7), (8, .bool true)] ⟨rfl, rfl, rfl, rfl, rfl, trivial⟩ (go fun _ => Decidable.not_not.1 hne)
  ·exact cut_at [(0, ptr kb), (3, ptr b3), (5, ptr b5), (7, ptr b7), (8, .bool true)] ⟨rfl, rfl, rfl, rfl, rfl, trivial⟩ (go fun h => absurd h hk0)
 ·-- not there
  cases hold' : old with
  |some t =>
   rw [hold'] at hold
   obtain ⟨i, hi, hik, _⟩ := hold
   exact absurd hik (hno i hi)
  |none =>
  intro b7 h3 g3
  refine Ei _ (Ai g3.blk (Ai (by decide) (Ai rfl (Ai (thing_one (t := zeroT) (h := h3) zero_TH) ?_))))
  intro h4 p4
  have g4 := g3.put p4
  have B7 : Blk h4 b7 zeroV := p4.blk
  have c4 := g4.chg
  have i7 := g4.id
  have B34 := (B3.chg c2 (by simp)).chg c4 (by simp)
  have B54 := (B5.chg c2 (by simp)).chg c4 (by simp)
  have c04 := (c0.nil c2).nil c4
  refine Ei _ (Ai (cell_blk B54 rfl) ?_)
  cases hmk : r.makes with
  |false =>
   have ef : choose_ r none e (decide (65536 ≤ m.length)) = .no 5 := if_pos hmk
   rw [ef]
   exact one_no kr c04
  |true =>
   have ef : choose_ r none e (decide (65536 ≤ m.length)) = endF (doneT { zeroT with kind := r.kind } e) false (decide (65536 ≤ m.length)) := if_neg (by rw [hmk]; simp)
   rw [ef]
   refine Ei _ (Ai (cell_blk B54 rfl) ?_)
   refine Ei _ (Ai B7 (Ai (by decide) (Ai rfl (Ai (ones1 rfl) ?_))))
   intro h5 p5
   have c5 := p5.chg
   have B75 : Blk h5 b7 (cellsT { zeroT with kind := r.kind } (.slice none 0 0) (.slice none 0 0) (.slice none 0 0)) := p5.blk
   have c05 : Chg [] h0 h5 := c04.fresh c5 (by simp; omega)
   refine cut_at [(0, ptr kb), (3, ptr b3), (5, ptr b5), (7, ptr b7), (8, .bool false)] ⟨rfl, rfl, rfl, rfl, rfl, trivial⟩ (oneG_tail kr c05 (B34.chg c5 (by simp; omega)) (B54.chg c5 (by simp; omega)) B75 (TO.nil rfl rfl rfl) (by simp [bl3, vblk, ablk]) (by omega) (by simp [bl3, vblk, ablk]) (by simp [bl3, vblk, ablk]; omega)
    (TGood.zero _) (rule_do hr (TGood.zero _) (fun r' h1 _ => by rw [hr] at h1; injection h1 with h1; rw [h1]) fun h9 => ?_) hkey (by rw [if_neg (by simp)]; exact hno))
   exfalso
   rcases h9 with h9 | h9
   ·rw [h9] at hr
    injection hr with e'
    rw [← e'] at hmk
    cases hmk
   ·rw [h9] at hr
    injection hr with e'
    rw [← e'] at hmk
    cases hmk
theorem oneG_rest {h0 h : Heap} {kb sb mb c b3 b5 : Nat} {m : List KI} {e : Eff} {r : Rule} {old : Option Thing} (kr : KR h0 kb sb mb c m) (c0 : Chg [] h0 h) (B3 : Blk h b3 (encD e)) (B5 : Blk h b5 (ruleC r))
  (hr : ruleR e.op = some r) (hin : ∀ i ∈ m, TIn i.thing) (hold : OldM m e.key old) :
  swp Tryz.prog (.seq (.seq (.ops f43r2) (.cond (.tmp 48) (.seq (.ops f43r3) .ret) .skip)) (.seq (.seq (.ops f43r4) (.cond (.tmp 57) (.seq (.ops f43r5) .ret) .skip)) (.seq (.ops f43r6) (.seq (.block 0 (.seq (.ops f43r7) (.cond (.tmp 65) (.seq (.ops f43r8) .ret) (.seq (.ops f43r9) (.cond (.tmp 73) (.ops f43r10) (.seq (.ops f43r11) (.cond (.tmp 79) (.seq (.ops f43r12) .ret) .skip))))))) (.seq (.seq (.ops f43r13) (.seq (.ops f43r14) (.cond (.tmp 95) (.seq (.ops f43r15) .ret) .skip))) (.seq (.block 1 (.seq (.ops f43r16) (.cond (.tmp 106) (.ops f43r17) (.seq (.ops f43r18) (.cond (.tmp 124) (.seq (.ops f43r19) .ret) (.ops f43r20)))))) (.seq (.ops f43r21) .ret)))))))
   (retQ [.t 4] (Ret (OneP h0 kb sb mb e.key m (oneF old e (decide (65536 ≤ m.length)))))) (mk [(0, ptr kb), (3, ptr b3), (5, ptr b5), (6, .bool true)]) [] h := by
 have ef : ∀ full, oneF old e full = if (r.name = false ∧ e.name ≠ noText) ∨ (r.text = false ∧ e.text ≠ noText) ∨ (r.number = false ∧ e.num ≠ 0) then .no 2 else
   if 1048576 < e.key.size ∨ 1048576 < e.name.size ∨ 1048576 < e.text.size then .no 3 else choose_ r old e full := by
  intro full
  unfold oneF
  rw [hr]
  cases old <;> rfl
 obtain ⟨F, hF⟩ : ∃ F, F = oneF old e (decide (65536 ≤ m.length)) := ⟨_, rfl⟩
 rw [← hF]
 have bad : ((r.name = false ∧ e.name ≠ noText) ∨ (r.text = false ∧ e.text ≠ noText) ∨ (r.number = false ∧ e.num ≠ 0)) → Ret (OneP h0 kb sb mb e.key m F) (.returned (retV [.int .i64 2])) h := by
  intro hb
  rw [hF, ef, if_pos hb]
  exact one_no kr c0
 have go : ¬ ((r.name = false ∧ e.name ≠ noText) ∨ (r.text = false ∧ e.text ≠ noText) ∨ (r.number = false ∧ e.num ≠ 0)) →
   swp Tryz.prog (.seq (.seq (.ops f43r4) (.cond (.tmp 57) (.seq (.ops f43r5) .ret) .skip)) (.seq (.ops f43r6) (.seq (.block 0 (.seq (.ops f43r7) (.cond (.tmp 65) (.seq (.ops f43r8) .ret) (.seq (.ops f43r9) (.cond (.tmp 73) (.ops f43r10) (.seq (.ops f43r11) (.cond (.tmp 79) (.seq (.ops f43r12) .ret) .skip))))))) (.seq (.seq (.ops f43r13) (.seq (.ops f43r14) (.cond (.tmp 95) (.seq (.ops f43r15) .ret) .skip))) (.seq (.block 1 (.seq (.ops f43r16) (.cond (.tmp 106) (.ops f43r17) (.seq (.ops f43r18) (.cond (.tmp 124) (.seq (.ops f43r19) .ret) (.ops f43r20)))))) (.seq (.ops f43r21) .ret))))))
    (retQ [.t 4] (Ret (OneP h0 kb sb mb e.key m F))) (mk [(0, ptr kb), (3, ptr b3), (5, ptr b5)]) [] h := by
  intro hgood
  rw [hF, ef, if_neg hgood]
  clear hF bad
  refine Ei _ (Ai (cell_blk B3 rfl) (Ei _ (Ai (cell_blk B3 rfl) (Ei _ (Ai (cell_blk B3 rfl) ?_)))))
  intro b6 h1 g1
  have s6 : SL encS h1 (.slice (some ⟨b6, 0, none⟩) 3 3) [e.key, e.name, e.text] := ⟨_, _, rfl, Nat.le_refl _, cells_blk g1.blk⟩
  refine call_ret (short_calls s6 (by simp)) ?_
  rintro r2 h9 ⟨hr2, e9⟩
  have e9 := e9.symm
  subst e9
  have c01 := c0.nil g1.chg
  by_cases hlong : 1048576 < e.key.size ∨ 1048576 < e.name.size ∨ 1048576 < e.text.size
  ·rw [if_pos hlong]
   have hsh : shortL [e.key, e.name, e.text] = false := by
    cases hb : shortL [e.key, e.name, e.text] with
    |false => rfl
    |true =>
     rw [shortL_iff] at hb
     have h1 := hb e.key (by simp)
     have h2 := hb e.name (by simp)
     have h3 := hb e.text (by simp)
     omega
   rw [hsh] at hr2
   subst hr2
   exact one_no kr c01
  ·rw [if_neg hlong]
   have hsh : shortL [e.key, e.name, e.text] = true := by
    rw [shortL_iff]
    intro s hs
    simp at hs
    rcases hs with rfl | rfl | rfl <;> omega
   rw [hsh] at hr2
   subst hr2
   refine swp_seq ?_
   exact cut_at [(0, ptr kb), (3, ptr b3), (5, ptr b5)] ⟨rfl, rfl, rfl, trivial⟩ (oneG_look kr c01 (B3.chg g1.chg (by simp)) (B5.chg g1.chg (by simp)) hr hin hold (by omega))
 refine Ei _ (Ai (cell_blk B5 rfl) ?_)
 cases q0 : r.name with
 |true =>
  refine Ei _ (Ai (cell_blk B5 rfl) ?_)
  cases q1 : r.text with
  |true =>
   refine Ei _ (Ai (cell_blk B5 rfl) ?_)
   cases q2 : r.number with
   |true =>
    exact cut_at [(0, ptr kb), (3, ptr b3), (5, ptr b5)] ⟨rfl, rfl, rfl, trivial⟩ (go (by simp [noText, q0, q1, q2]))
   |false =>
    refine Ei _ (Ai (cell_blk B3 rfl) ?_)
    refine Ai rfl (Ai (fun w2 => bad (.inr (.inr ⟨q2, w2⟩))) (fun w2 => ?_))
    have w2 := Decidable.not_not.1 w2
    exact cut_at [(0, ptr kb), (3, ptr b3), (5, ptr b5)] ⟨rfl, rfl, rfl, trivial⟩ (go (by simp [noText, q0, q1, q2, w2]))
  |false =>
   refine Ei _ (Ai (cell_blk B3 rfl) ?_)
   refine Ai (fun w1 => bad (.inr (.inl ⟨q1, w1⟩))) (fun w1 => ?_)
   have w1 := Decidable.not_not.1 w1
   refine Ei _ (Ai (cell_blk B5 rfl) ?_)
   cases q2 : r.number with
   |true =>
    exact cut_at [(0, ptr kb), (3, ptr b3), (5, ptr b5)] ⟨rfl, rfl, rfl, trivial⟩ (go (by simp [noText, q0, q1, w1, q2]))
   |false =>
    refine Ei _ (Ai (cell_blk B3 rfl) ?_)
    refine Ai rfl (Ai (fun w2 => bad (.inr (.inr ⟨q2, w2⟩))) (fun w2 => ?_))
    have w2 := Decidable.not_not.1 w2
    exact cut_at [(0, ptr kb), (3, ptr b3), (5, ptr b5)] ⟨rfl, rfl, rfl, trivial⟩ (go (by simp [noText, q0, q1, w1, q2, w2]))
 |false =>
  refine Ei _ (Ai (cell_blk B3 rfl) ?_)
  refine Ai (fun w0 => bad (.inl ⟨q0, w0⟩)) (fun w0 => ?_)
  have w0 := Decidable.not_not.1 w0
  refine Ei _ (Ai (cell_blk B5 rfl) ?_)
  cases q1 : r.text with
  |true =>
   refine Ei _ (Ai (cell_blk B5 rfl) ?_)
   cases q2 : r.number with
   |true =>
    exact cut_at [(0, ptr kb), (3, ptr b3), (5, ptr b5)] ⟨rfl, rfl, rfl, trivial⟩ (go (by simp [noText, q0, w0, q1, q2]))
   |false =>
    refine Ei _ (Ai (cell_blk B3 rfl) ?_)
    refine Ai rfl (Ai (fun w2 => bad (.inr (.inr ⟨q2, w2⟩))) (fun w2 => ?_))
    have w2 := Decidable.not_not.1 w2
    exact cut_at [(0, ptr kb), (3, ptr b3), (5, ptr b5)] ⟨rfl, rfl, rfl, trivial⟩ (go (by simp [noText, q0, w0, q1, q2, w2]))
  |false =>
   refine Ei _ (Ai (cell_blk B3 rfl) ?_)
   refine Ai (fun w1 => bad (.inr (.inl ⟨q1, w1⟩))) (fun w1 => ?_)
   have w1 := Decidable.not_not.1 w1
   refine Ei _ (Ai (cell_blk B5 rfl) ?_)
   cases q2 : r.number with
   |true =>
    exact cut_at [(0, ptr kb), (3, ptr b3), (5, ptr b5)] ⟨rfl, rfl, rfl, trivial⟩ (go (by simp [noText, q0, w0, q1, w1, q2]))
   |false =>
    refine Ei _ (Ai (cell_blk B3 rfl) ?_)
    refine Ai rfl (Ai (fun w2 => bad (.inr (.inr ⟨q2, w2⟩))) (fun w2 => ?_))
    have w2 := Decidable.not_not.1 w2
    exact cut_at [(0, ptr kb), (3, ptr b3), (5, ptr b5)] ⟨rfl, rfl, rfl, trivial⟩ (go (by simp [noText, q0, w0, q1, w1, q2, w2]))
theorem rule_ones (r : Rule) : ∀ u ∈ (Rule.val r).cells.toList, u.oneCell' = true := by
 intro u hu
 simp only [Rule.val, ruleV, Value.cells, List.mem_cons, List.not_mem_nil, or_false] at hu
 rcases hu with rfl | rfl | rfl | rfl | rfl | rfl <;> rfl
theorem oneG_bad {h0 h : Heap} {kb sb mb c b3 b5 : Nat} {m : List KI} {e : Eff} {old : Option Thing} (kr : KR h0 kb sb mb c m) (c0 : Chg [] h0 h) (hr : ruleR e.op = none) :
  swp Tryz.prog (.seq (.seq (.ops f43r2) (.cond (.tmp 48) (.seq (.ops f43r3) .ret) .skip)) (.seq (.seq (.ops f43r4) (.cond (.tmp 57) (.seq (.ops f43r5) .ret) .skip)) (.seq (.ops f43r6) (.seq (.block 0 (.seq (.ops f43r7) (.cond (.tmp 65) (.seq (.ops f43r8) .ret) (.seq (.ops f43r9) (.cond (.tmp 73) (.ops f43r10) (.seq (.ops f43r11) (.cond (.tmp 79) (.seq (.ops f43r12) .ret) .skip))))))) (.seq (.seq (.ops f43r13) (.seq (.ops f43r14) (.cond (.tmp 95) (.seq (.ops f43r15) .ret) .skip))) (.seq (.block 1 (.seq (.ops f43r16) (.cond (.tmp 106) (.ops f43r17) (.seq (.ops f43r18) (.cond (.tmp 124) (.seq (.ops f43r19) .ret) (.ops f43r20)))))) (.seq (.ops f43r21) .ret)))))))
   (retQ [.t 4] (Ret (OneP h0 kb sb mb e.key m (oneF old e (decide (65536 ≤ m.length)))))) (mk [(0, ptr kb), (3, ptr b3), (5, ptr b5), (6, .bool false)]) [] h := by
 have ef : oneF old e (decide (65536 ≤ m.length)) = .no 2 := by unfold oneF; rw [hr]
 rw [ef]
 exact one_no kr c0
theorem oneG_calls {h : Heap} {kb sb mb c : Nat} {m : List KI} {e : Eff} {old : Option Thing} (kr : KR h kb sb mb c m) (hin : ∀ i ∈ m, TIn i.thing) (hold : OldM m e.key old) :
  CallsH Tryz.prog 43 [ptr kb, .agg ⟨encD e⟩] h (Ret (OneP h kb sb mb e.key m (oneF old e (decide (65536 ≤ m.length))))) := by
 refine f43_calls (by simp) ?_
 intro b3 h1 g1
 have B3 : Blk h1 b3 (encD e) := g1.blk
 refine Ei _ (Ai (cell_blk B3 rfl) ?_)
 refine Ai ?_ ?_
 ·refine callq_ret rules_calls ?_
  rintro _ h2 ⟨rb, rfl, mr, hrb, hc2⟩
  refine Ai hc2.ext ?_
  refine Ai rfl (Ei (entsI ruleL 0) (Ei 15 (Ai mr (Ai (entsI_fits _ _) ?_))))
  rcases rule_find e.op with ⟨hr, hmf⟩ | ⟨r, j, hr, hmf⟩
  ·rw [hmf]
   intro b5 h3 g3
   refine Ei _ (Ai g3.blk (Ai (by decide) (Ai rfl (Ai (by decide) ?_))))
   intro h4 p4
   have g4 := g3.put p4
   exact cut_at [(0, ptr kb), (3, ptr b3), (5, ptr b5), (6, .bool false)] ⟨rfl, rfl, rfl, rfl, trivial⟩ (oneG_bad kr ((g1.chg.nil hc2).nil g4.chg) hr)
  ·rw [hmf]
   intro b5 h3 g3
   refine Ei _ (Ai g3.blk (Ai (by decide) (Ai rfl (Ai (rule_ones r) ?_))))
   intro h4 p4
   have g4 := g3.put p4
   have hc14 := hc2.nil g4.chg
   exact cut_at [(0, ptr kb), (3, ptr b3), (5, ptr b5), (6, .bool true)] ⟨rfl, rfl, rfl, rfl, trivial⟩ (oneG_rest kr (g1.chg.nil hc14) (B3.chg hc14 (by simp)) (show Blk h4 b5 (ruleC r) from p4.blk) hr hin hold)
 ·intro b5 h2 g2
  refine callq_ret rules_calls ?_
  rintro _ h3 ⟨rb, rfl, mr, hrb, hc3⟩
  refine Ai hc3.ext ?_
  refine Ai rfl (Ei (entsI ruleL 0) (Ei 15 (Ai mr (Ai (entsI_fits _ _) ?_))))
  have B5 : Blk h3 b5 [.bool false, .bool false, .bool false, .int .i64 0, .bool false, .nilFunc] := (show Blk h2 b5 _ from g2.blk).chg hc3 (by simp)
  have i5 := g2.id
  have l3 := B3.lt
  have z1 := g1.size
  have hc13 := g2.chg.nil hc3
  rcases rule_find e.op with ⟨hr, hmf⟩ | ⟨r, j, hr, hmf⟩
  ·rw [hmf]
   refine Ei _ (Ai B5 (Ai (by decide) (Ai rfl (Ai (by decide) ?_))))
   intro h4 p4
   have hc14 : Chg [] h h4 := (g1.chg.nil hc13).fresh p4.chg (by simp; omega)
   exact cut_at [(0, ptr kb), (3, ptr b3), (5, ptr b5), (6, .bool false)] ⟨rfl, rfl, rfl, rfl, trivial⟩ (oneG_bad kr hc14 hr)
  ·rw [hmf]
   refine Ei _ (Ai B5 (Ai (by decide) (Ai rfl (Ai (rule_ones r) ?_))))
   intro h4 p4
   have hc14 : Chg [] h h4 := (g1.chg.nil hc13).fresh p4.chg (by simp; omega)
   exact cut_at [(0, ptr kb), (3, ptr b3), (5, ptr b5), (6, .bool true)] ⟨rfl, rfl, rfl, rfl, trivial⟩ (oneG_rest kr hc14 ((B3.chg hc13 (by simp)).chg p4.chg (by simp; omega)) (show Blk h4 b5 (ruleC r) from p4.blk) hr hin hold)
theorem ki_nodup {m : List KI} (hn : (m.map KI.key).Nodup) : (m.map KI.pr).Nodup := by
 have : m.map KI.key = (m.map KI.pr).map Prod.fst := by rw [List.map_map]; rfl
 rw [this] at hn
 exact List.Pairwise.imp (fun h e => h (by rw [e])) (List.pairwise_map.1 hn)
theorem up_nodup {S : Space} (hu : UpS S) : S.Nodup := hu.imp fun h e => by rw [e, sless_irrefl] at h; cases h
theorem sorted_len {m : List KI} {S : Space} (hn : (m.map KI.key).Nodup) (hs : Sorted m S) : S.length = m.length := by
 have := ((List.perm_ext_iff_of_nodup (up_nodup hs.up) (ki_nodup hn)).2 hs.mem).length_eq
 simpa using this
theorem old_find {m : List KI} {S : Space} (hs : Sorted m S) (key : ByteArray) : OldM m key (findS S key) := by
 cases hf : findS S key with
 |some t =>
  obtain ⟨i, hi, h1, h2⟩ := mem_pr.1 ((hs.mem _).1 (findS_mem hf))
  exact ⟨i, hi, h1, h2⟩
 |none =>
  intro i hi hk
  have : (key, i.thing) ∈ S := (hs.mem _).2 (mem_pr.2 ⟨i, hi, hk, rfl⟩)
  rw [findS_some hs.up this] at hf
  cases hf
theorem in_things {m : List KI} {S : Space} (hs : Sorted m S) (hi : InS S) : ∀ i ∈ m, TIn i.thing := fun i h => hi i.pr ((hs.mem _).2 (List.mem_map_of_mem h))
theorem fate_sorted {m m' : List KI} {S : Space} {key : ByteArray} {f : Fate} (hs : Sorted m S) (hf : FateM key m m' f) : Sorted m' (f.space S key) := by
 refine ⟨up_space f hs.up, fun p => ?_⟩
 cases f with
 |no n =>
  have hf : m'.map KI.pr = m.map KI.pr := hf
  rw [hf]; exact hs.mem p
 |drop => rw [hf p, ← hs.mem]; exact mem_dropS
 |put t => rw [hf p, ← hs.mem]; exact mem_putS
theorem one_space {h : Heap} {kb sb mb c : Nat} {m : List KI} {S : Space} {e : Eff} (kr : KR h kb sb mb c m) (hs : Sorted m S) (hi : InS S) :
  CallsH Tryz.prog 43 [ptr kb, .agg ⟨encD e⟩] h (Ret fun r h' => r = .int .i64 (fateS S e).num ∧ ∃ c' m', KR h' kb sb mb c' m' ∧ Sorted m' ((fateS S e).space S e.key) ∧ Chg [mb] h h') := by
 refine (oneG_calls kr (in_things hs hi) (old_find hs e.key)).mono fun en h' he => ?_
 cases en with
 |returned v =>
  obtain ⟨h1, c', m', h2, h3, h4⟩ := he
  have e1 : m.length = S.length := (sorted_len kr.nodup hs).symm
  rw [e1] at h1 h3
  exact ⟨h1, c', m', h2, fate_sorted hs h3, h4⟩
 |panicked ch => exact he.elim
 |outgrown => exact he.elim
theorem applyS_no {S : Space} {e : Eff} {d : List Eff} (h : (fateS S e).num ≠ 0) : applyS S (e :: d) = (S, 0, (fateS S e).num) := by
 rw [applyS, if_neg h]
theorem applyS_yes {S : Space} {e : Eff} {d : List Eff} (h : (fateS S e).num = 0) : applyS S (e :: d) = ((applyS ((fateS S e).space S e.key) d).1, (applyS ((fateS S e).space S e.key) d).2.1 + 1, (applyS ((fateS S e).space S e.key) d).2.2) := by
 rw [applyS, if_pos h]
theorem no_space {S : Space} {e : Eff} (h : (fateS S e).num ≠ 0) : (fateS S e).space S e.key = S := by
 cases hf : fateS S e with
 |no n => rfl
 |drop => rw [hf] at h; exact absurd rfl h
 |put t => rw [hf] at h; exact absurd rfl h
theorem ApplyG_calls {h : Heap} {kb sb mb c : Nat} {m : List KI} {S : Space} {v : Value} {d : List Eff} (kr : KR h kb sb mb c m) (hs : Sorted m S) (hi : InS S) (hv : ∀ h', Chg [mb] h h' → SL encD h' v d) (hd : d.length < 4611686018427387904) :
  CallsH Tryz.prog 21 [ptr kb, v] h (Ret fun r h' => r = .tuple #[.int .i64 (applyS S d).2.1, .int .i64 (applyS S d).2.2] ∧ ∃ c' m', KR h' kb sb mb c' m' ∧ Sorted m' (applyS S d).1 ∧ InS (applyS S d).1 ∧ Chg [mb] h h') := by
 have c0 : Chg [mb] h h := (Chg.refl h).mono (by simp)
 obtain ⟨a, cc, rfl, hlc⟩ := (hv h c0).form
 refine f21_calls (by simp) ?_
 refine call_ret (none_calls kr.ks) ?_
 rintro _ h9 ⟨rfl, e9⟩
 have e9 := e9.symm
 subst e9
 refine loop_intro (fun k : Nat => [(0, ptr kb), (6, .int .i64 k), (7, .int .i64 0), (12, .slice a d.length cc), (13, .int .i64 d.length), (14, .int .i64 k)])
  (fun k h' => k ≤ d.length ∧ Chg [mb] h h' ∧ ∃ c' m' S', KR h' kb sb mb c' m' ∧ Sorted m' S' ∧ InS S' ∧ applyS S d = ((applyS S' (d.drop k)).1, (applyS S' (d.drop k)).2.1 + k, (applyS S' (d.drop k)).2.2)) (fun k => d.length - k) 0
  ⟨rfl, rfl, rfl, rfl, rfl, rfl, trivial⟩ ⟨Nat.zero_le _, c0, c, m, S, kr, hs, hi, rfl⟩ ?_
 rintro k h1 ⟨hk, c1, c', m', S', kr1, hs1, hi1, hap⟩
 refine Ai rfl (Ai (fun hlt => ?_) (fun hlt => ?_))
 ·have hlt : k < d.length := by omega
  have hv1 := hv h1 c1
  obtain ⟨b, o, rfl⟩ := hv1.addr (by omega)
  have hcs := hv1.cells encD_len (i := k) (x := d[k]) (by simp [hlt])
  rw [List.drop_eq_getElem_cons hlt] at hap
  refine Ai (by omega) (Ai (by omega) (Ei (encD d[k]) (Ai rfl (Ai hcs ?_))))
  intro b9 h2 g2
  refine Ei _ (Ai g2.blk (Ai (by decide) (Ai rfl (Ai (encD_one _) ?_))))
  intro h3 p3
  have g3 := g2.put p3
  have B9 : Blk h3 b9 (encD d[k]) := p3.blk
  refine Ei (encD d[k]) (Ai rfl (Ai (cells_blk B9) ?_))
  refine call_ret (one_space (kr1.ext g3.chg) hs1 hi1) ?_
  rintro _ h4 ⟨rfl, c4, m4, kr4, hs4, ch4⟩
  have c14 : Chg [mb] h h4 := (c1.step g3.chg (by simp)).step ch4 (by simp)
  refine Ai rfl (Ai (fun hne => ?_) (fun hne => ?_))
  ·rw [applyS_no hne] at hap
   rw [no_space hne] at hs4
   rw [hap]
   refine Ai ?_ (Ei c4 (Ei m4 (Ai kr4 (Ai hs4 (Ai hi1 c14)))))
   show Value.tuple _ = Value.tuple #[.int .i64 ((0 + k : Nat) : Int), _]
   rw [Nat.zero_add]
  ·have hz := Decidable.not_not.1 hne
   rw [applyS_yes hz] at hap
   refine Ai rfl (fun z hz' => ?_)
   have hz' := add_in hz' (by omega) (by omega)
   subst hz'
   refine Ai rfl (fun y hy => ?_)
   have hy := add_in hy (by omega) (by omega)
   subst hy
   rw [hz]
   refine Ai rfl (Ei (k + 1) (Ai ?_ (Ai ?_ ?_)))
   ·exact ⟨rfl, rfl, rfl, rfl, rfl, rfl, trivial⟩
   ·exact ⟨by omega, c14, c4, m4, _, kr4, hs4, in_space hi1, by rw [hap]; simp only [Nat.add_assoc, Nat.add_comm 1 k]⟩
   ·omega
 ·have hkl : k = d.length := by omega
  subst hkl
  rw [List.drop_length, applyS] at hap
  rw [hap]
  refine Ai ?_ (Ei c' (Ei m' (Ai kr1 (Ai hs1 (Ai hi1 c1)))))
  show Value.tuple _ = Value.tuple #[.int .i64 ((0 + d.length : Nat) : Int), _]
  rw [Nat.zero_add]
end Go.Proofs.YtjnijlnmbjjgpaaGreatDoor
set_option maxRecDepth 100000
namespace Go.Proofs.YtjnijlnmbjjgpaaGreatDoor.C
open Go Go.Sx Go.Sx.S
end Go.Proofs.YtjnijlnmbjjgpaaGreatDoor.C
namespace Go.Proofs.YtjnijlnmbjjgpaaGreatDoor
open Go Go.Sx C
section
variable {α : Type}
end
end Go.Proofs.YtjnijlnmbjjgpaaGreatDoor
namespace Go.Proofs.YtjnijlnmbjjgpaaGreatDoor
open Go Go.Sx C
structure Named (t : Thing) : Prop where
 ps : ∀ x ∈ t.pairs, x.name.size < 4611686018427387904
 ls : ∀ x ∈ t.list, x.size < 4611686018427387904
 rs : ∀ x ∈ t.ranks, x.name.size < 4611686018427387904
theorem pr_up {l : List RX} (hu : UpX l) : UpS (l.map RX.pr) := List.Pairwise.map RX.pr (fun _ _ h => h) hu
structure RG (l : List RX) : Prop where
 up : UpX l
 len : l.length ≤ 65536
 fit : KeysFit l
 tin : ∀ x ∈ l, TIn x.thing
 nm : ∀ x ∈ l, Named x.thing
theorem RG.ins {l : List RX} (g : RG l) : InS (l.map RX.pr) := by
 intro p hp
 obtain ⟨x, hx, rfl⟩ := List.mem_map.1 hp
 exact g.tin x hx
def getS (S : Space) (key : ByteArray) (now : Int) : Option Thing := match findS S key with
 |some t => if goneT t now = true then none else some t
 |none => none
theorem find_mem {m : List KI} {S : Space} (hs : Sorted m S) {i : KI} (hi : i ∈ m) : findS S i.key = some i.thing :=
 findS_some hs.up ((hs.mem _).2 (mem_pr.2 ⟨i, hi, rfl, rfl⟩))
theorem find_out {m : List KI} {S : Space} (hs : Sorted m S) {key : ByteArray} (hno : ∀ i ∈ m, i.key ≠ key) : findS S key = none := by
 cases hf : findS S key with
 |none => rfl
 |some t =>
  obtain ⟨i, hi, h1, h2⟩ := mem_pr.1 ((hs.mem _).1 (findS_mem hf))
  exact absurd h1 (hno i hi)
theorem KGet_calls {h : Heap} {kb sb mb c : Nat} {m : List KI} {S : Space} (key : ByteArray) (now : Int) (x : KR h kb sb mb c m) (hs : Sorted m S) :
  CallsH Tryz.prog 45 [ptr kb, .string key, .int .i64 now] h (Ret fun r h' => (∃ us, r = .tuple #[.agg ⟨us⟩, .bool (getS S key now).isSome] ∧ TH h' us ((getS S key now).getD zeroT)) ∧ Chg [] h h') := by
 obtain ⟨go, hgo⟩ : ∃ go, go = getS S key now := ⟨_, rfl⟩
 rw [← hgo]
 refine f45_calls (by simp) ?_
 intro b6 h1 g1
 have c1 := g1.chg
 have i6 := g1.id
 have z1 := g1.size
 have B6 : Blk h1 b6 zeroV := g1.blk
 refine call_ret (LookK_calls key (x.ext c1)) ?_
 rintro _ h2 ⟨hlook, c2⟩
 have z2 := c2.size
 rcases hlook with ⟨i, hi, hik, pv, lv, rv, rfl, o2, fr⟩ | ⟨hno, rfl⟩
 ·have hfs : findS S key = some i.thing := by rw [← hik]; exact find_mem hs hi
  intro b8 h3 g3
  refine Ei zeroV (Ai g3.blk (Ai (by decide) (Ai rfl (Ai (thing_one o2.th) ?_))))
  intro h4 p4
  have g4 := g3.put p4
  have B8 : Blk h4 b8 (cellsT i.thing pv lv rv) := p4.blk
  have o4 := o2.ext g4.chg
  have c14 : Chg [] h1 h4 := c2.nil g4.chg
  refine Ei _ (Ai rfl (Ai (cells_blk B8) ?_))
  refine call_ret (gone_calls o4.th now) ?_
  rintro _ h5 ⟨rfl, c5⟩
  have c15 := c14.nil c5
  have o5 := o4.ext c5
  have B65 := B6.chg c15 (by simp)
  have B85 := B8.chg c5 (by simp)
  cases hg : (i.thing.hasU && decide (i.thing.unt ≤ now)) with
  |true =>
   have e : go = none := by rw [hgo]; unfold getS; rw [hfs]; simp only; rw [if_pos (show goneT i.thing now = true from hg)]
   subst e
   refine Ei zeroV (Ai B65 (Ai (by decide) (Ai rfl (Ai (thing_one (zero_TH (h := h5))) ?_))))
   intro h6 p6
   have B66 : Blk h6 b6 zeroV := p6.blk
   refine Ei zeroV (Ai rfl (Ai (cells_blk B66) ?_))
   exact Ai (Ei zeroV (Ai rfl zero_TH)) ((c1.nil c15).fresh p6.chg (by simp; omega))
  |false =>
   have e : go = some i.thing := by rw [hgo]; unfold getS; rw [hfs]; simp only; rw [if_neg (by unfold goneT; rw [hg]; simp)]
   subst e
   refine Ei _ (Ai rfl (Ai (cells_blk B85) ?_))
   refine Ei zeroV (Ai B65 (Ai (by decide) (Ai rfl (Ai (thing_one o5.th) ?_))))
   intro h6 p6
   have B66 : Blk h6 b6 (cellsT i.thing pv lv rv) := p6.blk
   have o6 := o5.chg p6.chg (fun b hb => by have := fr b hb; simp; omega)
   refine Ei _ (Ai rfl (Ai (cells_blk B66) ?_))
   exact Ai (Ei _ (Ai rfl o6.th)) ((c1.nil c15).fresh p6.chg (by simp; omega))
 ·have e : go = none := by rw [hgo]; unfold getS; rw [find_out hs hno]
  subst e
  intro b8 h3 g3
  refine Ei zeroV (Ai g3.blk (Ai (by decide) (Ai rfl (Ai (thing_one (zero_TH (h := h3))) ?_))))
  intro h4 p4
  have g4 := g3.put p4
  have c14 : Chg [] h1 h4 := c2.nil g4.chg
  have B64 := B6.chg c14 (by simp)
  refine Ei zeroV (Ai B64 (Ai (by decide) (Ai rfl (Ai (thing_one (zero_TH (h := h4))) ?_))))
  intro h6 p6
  have B66 : Blk h6 b6 zeroV := p6.blk
  refine Ei zeroV (Ai rfl (Ai (cells_blk B66) ?_))
  exact Ai (Ei zeroV (Ai rfl zero_TH)) ((c1.nil c14).fresh p6.chg (by simp; omega))
end Go.Proofs.YtjnijlnmbjjgpaaGreatDoor
set_option maxRecDepth 100000
namespace Go.Proofs.YtjnijlnmbjjgpaaGreatDoor.C
open Go Go.Sx Go.Sx.S
def f231r0 : LS := [o 6 (.mv (.const (.slice none 0 0)))]
def f231r1 : LS := [o 12 (.mv (t 0)),o 13 (.mv (t 2)),o 14 (.call 110 [(t 12), (t 13)]),o 11 (.mv (t 14)),o 15 (.ext (t 11) 0),o 16 (.ext (t 11) 1),o 7 (.new [(.int .i64 0), (.string ⟨#[]⟩), (.slice none 0 0), (.slice none 0 0), (.slice none 0 0), (.bool false), (.int .i64 0)]),
 q (.st 7 (t 7) (t 15)),o 8 (.mv (t 16))]
def f231r2 : LS := [o 18 (.mv (t 0)),o 19 (.mv (t 2)),o 20 (.mv (t 1)),o 21 (.call 45 [(t 18), (t 19), (t 20)]),o 17 (.mv (t 21)),o 22 (.ext (t 17) 0),o 23 (.ext (t 17) 1),o 9 (.new [(.int .i64 0), (.string ⟨#[]⟩), (.slice none 0 0), (.slice none 0 0), (.slice none 0 0), (.bool false), (.int .i64 0)]),
 q (.st 7 (t 9) (t 22)),o 10 (.mv (t 23))]
def f231r3 : LS := [o 24 (.mv (t 8)),o 25 (.mv (t 24)),
 g 26 25 (.mv (t 10)),
 g 27 25 (.un .not (t 26)),o 28 (.pick (t 25) (t 27) (b false))]
def f231r4 : LS := [o 29 (.mv (t 2)),o 30 (.build [(.int .i64 0), (.string ⟨#[]⟩), (.string ⟨#[]⟩), (.string ⟨#[]⟩), (.int .i64 0)] [(0, 1), (1, 1)] [(i 1), (t 29)]),o 31 (.bslice [(.int .i64 0), (.string ⟨#[]⟩), (.string ⟨#[]⟩), (.string ⟨#[]⟩), (.int .i64 0)] 1 [(0, 5)] [(t 30)]),o 6 (.mv (t 31))]
def f231r5 : LS := [o 6 (.mv (.const (.slice none 0 0)))]
def f231 : SCode := (.seq (.ops f231r0) (.seq (.ops f231r1) (.seq (.seq (.ops f231r2) (.seq (.ops f231r3) (.cond (t 28) (.seq (.ops f231r4) .ret) .skip))) (.seq (.ops f231r5) .ret))))
theorem f231_calls : Sound Tryz.prog 231 32 f231 [.t 6] := sound_of mixed Tryz.func231 rfl (by kernel_rfl) (by kernel_rfl) (by kernel_rfl)
end Go.Proofs.YtjnijlnmbjjgpaaGreatDoor.C
namespace Go.Proofs.YtjnijlnmbjjgpaaGreatDoor
open Go Go.Sx C
structure SFit (d : List ByteArray) : Prop where
 len : d.length < 4611686018427387904
 each : ∀ e ∈ d, e.size < 4611686018427387904
structure SSmall (d : List ByteArray) : Prop where
 len : d.length ≤ 20
 each : ∀ e ∈ d, e.size ≤ 300
def goneE (key : ByteArray) : Eff := ⟨1, key, noText, noText, 0⟩
def dropsS (S : Space) (key : ByteArray) (now : Int) : List Eff := if (findS S key).isSome = true ∧ (getS S key now).isSome = false then [goneE key] else []
theorem look_is {h : Heap} {kb sb mb c : Nat} {m : List KI} {S : Space} (key : ByteArray) (x : KR h kb sb mb c m) (hs : Sorted m S) :
  CallsH Tryz.prog 110 [ptr kb, .string key] h (Ret fun r h' => (∃ us, us.length = 7 ∧ (∀ u ∈ us, u.oneCell' = true) ∧ r = .tuple #[.agg ⟨us⟩, .bool (findS S key).isSome]) ∧ Chg [] h h') := by
 refine (LookK_calls key x).mono fun e h' he => ?_
 cases e with
 |panicked ch => exact he.elim
 |outgrown => exact he.elim
 |returned v =>
  obtain ⟨hr, hc⟩ := he
  refine ⟨?_, hc⟩
  rcases hr with ⟨i, hi, hk, pv, lv, rv, rfl, ht, _⟩ | ⟨hno, rfl⟩
  ·have tx : TH h' (cellsT i.thing pv lv rv) i.thing := ht.th
   refine ⟨_, tx.len, thing_one tx, ?_⟩
   rw [← hk, find_mem hs hi]; rfl
  ·refine ⟨zeroV, rfl, by decide, ?_⟩
   rw [find_out hs hno]; rfl
theorem BDrops_calls {h : Heap} {kb sb mb c : Nat} {m : List KI} {S : Space} (key : ByteArray) (now : Int) (x : KR h kb sb mb c m) (hs : Sorted m S) :
  CallsH Tryz.prog 231 [ptr kb, .int .i64 now, .string key] h (Ret fun r h' => OL encD 5 h' r (dropsS S key now) ∧ (∀ b ∈ vblk r, h.size ≤ b) ∧ Chg [] h h') := by
 obtain ⟨fs, hfs⟩ : ∃ b, b = (findS S key).isSome := ⟨_, rfl⟩
 refine f231_calls (by simp) ?_
 refine call_ret (look_is key x hs) ?_
 rintro _ h1 ⟨⟨us, hl, h1c, rfl⟩, c1⟩
 rw [← hfs]
 intro b7 h2 g2
 refine Ei _ (Ai g2.blk (Ai (by decide) (Ai hl (Ai h1c ?_))))
 intro h3 p3
 have g3 := g2.put p3
 have c3 := c1.nil g3.chg
 obtain ⟨go, hgo⟩ : ∃ go, go = getS S key now := ⟨_, rfl⟩
 refine call_ret (KGet_calls key now (x.ext c3) hs) ?_
 rintro _ h4 ⟨⟨vs, rfl, tv⟩, c4⟩
 rw [← hgo] at tv ⊢
 intro b9 h5 g5
 refine Ei _ (Ai g5.blk (Ai (by decide) (Ai tv.len (Ai (thing_one tv) ?_))))
 intro h6 p6
 have g6 := g5.put p6
 have c6 := (c3.nil c4).nil g6.chg
 unfold dropsS
 rw [← hfs, ← hgo]
 cases fs with
 |false =>
  rw [if_neg (by simp)]
  exact ⟨OL.nil, fun b hb => (nomatch (show b ∈ ([] : List Nat) from hb)), c6⟩
 |true =>
  cases go with
  |some t =>
   rw [if_neg (by simp)]
   exact ⟨OL.nil, fun b hb => (nomatch (show b ∈ ([] : List Nat) from hb)), c6⟩
  |none =>
   rw [if_pos ⟨rfl, rfl⟩]
   intro b h7 g7
   have z := c6.size
   have i7 := g7.id
   refine ⟨⟨_, 1, rfl, rfl, Nat.le_refl _, [], ?_, rfl⟩, ?_, c6.nil g7.chg⟩
   ·exact g7.blk
   ·intro b' hb'
    have hb' : b' ∈ [b] := hb'
    have hb' := List.mem_singleton.1 hb'
    omega
end Go.Proofs.YtjnijlnmbjjgpaaGreatDoor
set_option maxRecDepth 100000
namespace Go.Proofs.YtjnijlnmbjjgpaaGreatDoor.C
open Go Go.Sx Go.Sx.S
def f41r0 : LS := [o 2 (.new [(.int .i64 0), (.int .i64 0), (.string ⟨#[]⟩), (.slice none 0 0)])]
def f41r1 : LS := [o 3 (.mv (t 0)),o 4 (.build [(.int .i64 0), (.int .i64 0), (.string ⟨#[]⟩), (.slice none 0 0)] [(0, 1), (2, 1)] [(i 2), (t 3)]),
 q (.st 4 (t 2) (t 4))]
def f41 : SCode := (.seq (.ops f41r0) (.seq (.ops f41r1) .ret))
theorem f41_calls : Sound Tryz.prog 41 5 f41 [.cn 2 4] := sound_of mixed Tryz.func41 rfl (by kernel_rfl) (by kernel_rfl) (by kernel_rfl)
end Go.Proofs.YtjnijlnmbjjgpaaGreatDoor.C
namespace Go.Proofs.YtjnijlnmbjjgpaaGreatDoor
open Go Go.Sx C
theorem OL.lt {α : Type} {enc : α → List Value} {size : Nat} {h : Heap} {v : Value} {l : List α} (o : OL enc size h v l) : ∀ b ∈ vblk v, b < h.size := by
 obtain ⟨a, c, rfl, h1⟩ := o
 intro b hb
 cases a with
 |none => simp [vblk, ablk] at hb
 |some a =>
  obtain ⟨b', o', sp⟩ := a
  cases sp with
  |some q => exact h1.elim
  |none =>
   obtain ⟨_, _, rest, hB, _⟩ := h1
   have hb : b ∈ [b'] := hb
   rw [List.mem_singleton.1 hb]
   exact hB.lt
def wType : ByteArray := ⟨#[87, 82, 79, 78, 71, 84, 89, 80, 69]⟩
def wLong : ByteArray := ⟨#[69, 82, 82, 32, 108, 111, 110, 103]⟩
theorem th_off {S : List Nat} {h h' : Heap} {t : Thing} {pv lv rv : Value} (x : TH h (cellsT t pv lv rv) t) (hc : Chg S h h') (hn : ∀ b ∈ bl3 pv lv rv, b ∉ S) : TH h' (cellsT t pv lv rv) t := by
 obtain ⟨p, l, r, e, h1, h2, h3⟩ := x
 simp only [cellsT, List.cons.injEq, and_true, true_and] at e
 obtain ⟨rfl, rfl, rfl⟩ := e
 exact ⟨_, _, _, rfl, h1.chg hc (fun b hb => hn b (by simp [bl3, hb])), h2.chg hc (fun b hb => hn b (by simp [bl3, hb])), h3.chg hc (fun b hb => hn b (by simp [bl3, hb]))⟩
theorem TO.lt {h : Heap} {pv lv rv : Value} {t : Thing} (o : TO h pv lv rv t) : ∀ b ∈ bl3 pv lv rv, b < h.size := fun b hb => by
 simp only [bl3, List.mem_append] at hb
 rcases hb with hb | hb | hb
 ·exact OL.lt o.p b hb
 ·exact OL.lt o.l b hb
 ·exact OL.lt o.r b hb
def GetR (h h' : Heap) (go : Option Thing) (r : Value) : Prop := ∃ pv lv rv, r = .tuple #[.agg ⟨cellsT (go.getD zeroT) pv lv rv⟩, .bool go.isSome] ∧ TH h' (cellsT (go.getD zeroT) pv lv rv) (go.getD zeroT) ∧ ∀ b ∈ bl3 pv lv rv, h.size ≤ b ∧ b < h'.size
theorem get_none (h h' : Heap) : GetR h h' none (.tuple #[.agg ⟨zeroV⟩, .bool false]) :=
 ⟨.slice none 0 0, .slice none 0 0, .slice none 0 0, rfl, zero_TH, fun b hb => by simp [bl3, vblk, ablk] at hb⟩
theorem KGetF_calls {h : Heap} {kb sb mb c : Nat} {m : List KI} {S : Space} (key : ByteArray) (now : Int) (x : KR h kb sb mb c m) (hs : Sorted m S) :
  CallsH Tryz.prog 45 [ptr kb, .string key, .int .i64 now] h (Ret fun r h' => GetR h h' (getS S key now) r ∧ Chg [] h h') := by
 obtain ⟨go, hgo⟩ : ∃ go, go = getS S key now := ⟨_, rfl⟩
 rw [← hgo]
 refine f45_calls (by simp) ?_
 intro b6 h1 g1
 have c1 := g1.chg
 have i6 := g1.id
 have z1 := g1.size
 have B6 : Blk h1 b6 zeroV := g1.blk
 refine call_ret (LookK_calls key (x.ext c1)) ?_
 rintro _ h2 ⟨hlook, c2⟩
 have z2 := c2.size
 rcases hlook with ⟨i, hi, hik, pv, lv, rv, rfl, o2, fr⟩ | ⟨hno, rfl⟩
 ·have hfs : findS S key = some i.thing := by rw [← hik]; exact find_mem hs hi
  intro b8 h3 g3
  refine Ei zeroV (Ai g3.blk (Ai (by decide) (Ai rfl (Ai (thing_one o2.th) ?_))))
  intro h4 p4
  have g4 := g3.put p4
  have B8 : Blk h4 b8 (cellsT i.thing pv lv rv) := p4.blk
  have o4 := o2.ext g4.chg
  have c14 : Chg [] h1 h4 := c2.nil g4.chg
  refine Ei _ (Ai rfl (Ai (cells_blk B8) ?_))
  refine call_ret (gone_calls o4.th now) ?_
  rintro _ h5 ⟨rfl, c5⟩
  have c15 := c14.nil c5
  have o5 := o4.ext c5
  have B65 := B6.chg c15 (by simp)
  have B85 := B8.chg c5 (by simp)
  cases hg : (i.thing.hasU && decide (i.thing.unt ≤ now)) with
  |true =>
   have e : go = none := by rw [hgo]; unfold getS; rw [hfs]; simp only; rw [if_pos (show goneT i.thing now = true from hg)]
   subst e
   refine Ei zeroV (Ai B65 (Ai (by decide) (Ai rfl (Ai (thing_one (zero_TH (h := h5))) ?_))))
   intro h6 p6
   have B66 : Blk h6 b6 zeroV := p6.blk
   refine Ei zeroV (Ai rfl (Ai (cells_blk B66) ?_))
   exact Ai (get_none _ _) ((c1.nil c15).fresh p6.chg (by simp; omega))
  |false =>
   have e : go = some i.thing := by rw [hgo]; unfold getS; rw [hfs]; simp only; rw [if_neg (by unfold goneT; rw [hg]; simp)]
   subst e
   refine Ei _ (Ai rfl (Ai (cells_blk B85) ?_))
   refine Ei zeroV (Ai B65 (Ai (by decide) (Ai rfl (Ai (thing_one o5.th) ?_))))
   intro h6 p6
   have B66 : Blk h6 b6 (cellsT i.thing pv lv rv) := p6.blk
   have o6 := o5.chg p6.chg (fun b hb => by have := fr b hb; simp; omega)
   refine Ei _ (Ai rfl (Ai (cells_blk B66) ?_))
   exact Ai ⟨pv, lv, rv, rfl, o6.th, fun b hb => ⟨by have := fr b hb; omega, o6.lt b hb⟩⟩ ((c1.nil c15).fresh p6.chg (by simp; omega))
 ·have e : go = none := by rw [hgo]; unfold getS; rw [find_out hs hno]
  subst e
  intro b8 h3 g3
  refine Ei zeroV (Ai g3.blk (Ai (by decide) (Ai rfl (Ai (thing_one (zero_TH (h := h3))) ?_))))
  intro h4 p4
  have g4 := g3.put p4
  have c14 : Chg [] h1 h4 := c2.nil g4.chg
  have B64 := B6.chg c14 (by simp)
  refine Ei zeroV (Ai B64 (Ai (by decide) (Ai rfl (Ai (thing_one (zero_TH (h := h4))) ?_))))
  intro h6 p6
  have B66 : Blk h6 b6 zeroV := p6.blk
  refine Ei zeroV (Ai rfl (Ai (cells_blk B66) ?_))
  exact Ai (get_none _ _) ((c1.nil c14).fresh p6.chg (by simp; omega))
end Go.Proofs.YtjnijlnmbjjgpaaGreatDoor
namespace Go.Proofs
open Go.RowKit Go.Shelf
def Tryz.laysC174_ren : Go.Shelf.Ren := ⟨fun | 174 => 234 | 247 => 275 | 245 => 276 | 287 => 301 | 279 => 302 | 280 => 303 | 281 => 304 | 282 => 305 | 321 => 335 | 322 => 336 | 316 => 337 | 171 => 339 | 205 => 338 | 243 => 356 | 246 => 64 | 283 => 139 | 284 => 140 | 285 => 141 | 286 => 142 | 129 => 222 | 317 => 221 | 318 => 223 | 319 => 224 | 320 => 225 | 337 => 273 | 338 => 274 | n => n, fun | 9 => 9 | 3 => 3 | 2 => 2 | 75 => 244 | 85 => 245 | 4 => 4 | 167 => 319 | 5 => 5 | 53 => 183 | 175 => 320 | 46 => 237 | 168 => 322 | 37 => 140 | 0 => 0 | 210 => 335 | 21 => 21 | 127 => 347 | 145 => 350 | 143 => 348 | 171 => 182 | 173 => 186 | 212 => 234 | 51 => 235 | 20 => 20 | 213 => 236 | 232 => 317 | 233 => 318 | 80 => 351 | n => n, fun | 15 => 4 | 16 => 5 | 17 => 0 | 18 => 2 | 19 => 3 | n => n⟩
theorem Tryz.laysC174 : Go.Proofs.LaysC.n174 Tryz.prog Tryz.laysC174_ren := {
 mixed := by kernel_rfl
 f129 := Tryz.func222.trans (congrArg some (by kernel_rfl))
 f171 := Tryz.func339.trans (congrArg some (by kernel_rfl))
 f174 := Tryz.func234.trans (congrArg some (by kernel_rfl))
 f205 := Tryz.func338.trans (congrArg some (by kernel_rfl))
 f243 := Tryz.func356.trans (congrArg some (by kernel_rfl))
 f245 := Tryz.func276.trans (congrArg some (by kernel_rfl))
 f246 := Tryz.func64.trans (congrArg some (by kernel_rfl))
 f247 := Tryz.func275.trans (congrArg some (by kernel_rfl))
 f279 := Tryz.func302.trans (congrArg some (by kernel_rfl))
 f280 := Tryz.func303.trans (congrArg some (by kernel_rfl))
 f281 := Tryz.func304.trans (congrArg some (by kernel_rfl))
 f282 := Tryz.func305.trans (congrArg some (by kernel_rfl))
 f283 := Tryz.func139.trans (congrArg some (by kernel_rfl))
 f284 := Tryz.func140.trans (congrArg some (by kernel_rfl))
 f285 := Tryz.func141.trans (congrArg some (by kernel_rfl))
 f286 := Tryz.func142.trans (congrArg some (by kernel_rfl))
 f287 := Tryz.func301.trans (congrArg some (by kernel_rfl))
 f316 := Tryz.func337.trans (congrArg some (by kernel_rfl))
 f317 := Tryz.func221.trans (congrArg some (by kernel_rfl))
 f318 := Tryz.func223.trans (congrArg some (by kernel_rfl))
 f319 := Tryz.func224.trans (congrArg some (by kernel_rfl))
 f320 := Tryz.func225.trans (congrArg some (by kernel_rfl))
 f321 := Tryz.func335.trans (congrArg some (by kernel_rfl))
 f322 := Tryz.func336.trans (congrArg some (by kernel_rfl))
 f337 := Tryz.func273.trans (congrArg some (by kernel_rfl))
 f338 := Tryz.func274.trans (congrArg some (by kernel_rfl))
 t0 := Tryz.underlying0
 a0 := Tryz.isAgg0
 z0 := Tryz.sizeOf0
 v0 := Tryz.zeroValue0
 t2 := Tryz.underlying2
 a2 := Tryz.isAgg2
 z2 := Tryz.sizeOf2
 v2 := Tryz.zeroValue2
 t3 := Tryz.underlying3
 a3 := Tryz.isAgg3
 z3 := Tryz.sizeOf3
 v3 := Tryz.zeroValue3
 t4 := Tryz.underlying4
 a4 := Tryz.isAgg4
 z4 := Tryz.sizeOf4
 v4 := Tryz.zeroValue4
 t5 := Tryz.underlying5
 a5 := Tryz.isAgg5
 z5 := Tryz.sizeOf5
 v5 := Tryz.zeroValue5
 t9 := Tryz.underlying9
 a9 := Tryz.isAgg9
 z9 := Tryz.sizeOf9
 v9 := Tryz.zeroValue9
 t20 := Tryz.underlying20
 a20 := Tryz.isAgg20
 z20 := Tryz.sizeOf20
 v20 := Tryz.zeroValue20
 t21 := Tryz.underlying21
 a21 := Tryz.isAgg21
 z21 := Tryz.sizeOf21
 v21 := Tryz.zeroValue21
 t37 := Tryz.underlying140
 a37 := Tryz.isAgg140
 z37 := Tryz.sizeOf140
 v37 := Tryz.zeroValue140
 t46 := Tryz.underlying237
 a46 := Tryz.isAgg237
 z46 := Tryz.sizeOf237
 v46 := Tryz.zeroValue237
 t51 := Tryz.underlying235
 a51 := Tryz.isAgg235
 z51 := Tryz.sizeOf235
 v51 := Tryz.zeroValue235
 t53 := Tryz.underlying183
 a53 := Tryz.isAgg183
 z53 := Tryz.sizeOf183
 v53 := Tryz.zeroValue183
 t75 := Tryz.underlying244
 a75 := Tryz.isAgg244
 z75 := Tryz.sizeOf244
 v75 := Tryz.zeroValue244
 t85 := Tryz.underlying245
 a85 := Tryz.isAgg245
 z85 := Tryz.sizeOf245
 v85 := Tryz.zeroValue245
 t127 := Tryz.underlying347
 a127 := Tryz.isAgg347
 z127 := Tryz.sizeOf347
 v127 := Tryz.zeroValue347
 t143 := Tryz.underlying348
 a143 := Tryz.isAgg348
 z143 := Tryz.sizeOf348
 v143 := Tryz.zeroValue348
 t145 := Tryz.underlying350
 a145 := Tryz.isAgg350
 z145 := Tryz.sizeOf350
 v145 := Tryz.zeroValue350
 t167 := Tryz.underlying319
 a167 := Tryz.isAgg319
 z167 := Tryz.sizeOf319
 v167 := Tryz.zeroValue319
 t168 := Tryz.underlying322
 a168 := Tryz.isAgg322
 z168 := Tryz.sizeOf322
 v168 := Tryz.zeroValue322
 t171 := Tryz.underlying182
 a171 := Tryz.isAgg182
 z171 := Tryz.sizeOf182
 v171 := Tryz.zeroValue182
 t173 := Tryz.underlying186
 a173 := Tryz.isAgg186
 z173 := Tryz.sizeOf186
 v173 := Tryz.zeroValue186
 t175 := Tryz.underlying320
 a175 := Tryz.isAgg320
 z175 := Tryz.sizeOf320
 v175 := Tryz.zeroValue320
 t210 := Tryz.underlying335
 a210 := Tryz.isAgg335
 z210 := Tryz.sizeOf335
 v210 := Tryz.zeroValue335
 t212 := Tryz.underlying234
 a212 := Tryz.isAgg234
 z212 := Tryz.sizeOf234
 v212 := Tryz.zeroValue234
 t213 := Tryz.underlying236
 a213 := Tryz.isAgg236
 z213 := Tryz.sizeOf236
 t232 := Tryz.underlying317
 a232 := Tryz.isAgg317
 z232 := Tryz.sizeOf317
 v232 := Tryz.zeroValue317
 t233 := Tryz.underlying318
 a233 := Tryz.isAgg318
 z233 := Tryz.sizeOf318
 v233 := Tryz.zeroValue318
 g15 := by kernel_rfl
 g16 := by kernel_rfl
 g17 := by kernel_rfl
 g18 := by kernel_rfl
 g19 := by kernel_rfl
 t80 := Tryz.underlying351
 a80 := Tryz.isAgg351
 z80 := Tryz.sizeOf351
 v80 := Tryz.zeroValue351
 i0 := by kernel_rfl
 i2 := by kernel_rfl
 i3 := by kernel_rfl
 i4 := by kernel_rfl
 i5 := by kernel_rfl
 i9 := by kernel_rfl
 i20 := by kernel_rfl
 i21 := by kernel_rfl
 i37 := by kernel_rfl
 i46 := by kernel_rfl
 i51 := by kernel_rfl
 i53 := by kernel_rfl
 i75 := by kernel_rfl
 i80 := by kernel_rfl
 i85 := by kernel_rfl
 i127 := by kernel_rfl
 i143 := by kernel_rfl
 i145 := by kernel_rfl
 i167 := by kernel_rfl
 i168 := by kernel_rfl
 i171 := by kernel_rfl
 i173 := by kernel_rfl
 i175 := by kernel_rfl
 i210 := by kernel_rfl
 i212 := by kernel_rfl
 i232 := by kernel_rfl
 i233 := by kernel_rfl
 m15 := by kernel_rfl
 m16 := by kernel_rfl
 m17 := by kernel_rfl
 m18 := by kernel_rfl
 m19 := by kernel_rfl
 c0 := by kernel_rfl
 c2 := by kernel_rfl
 c3 := by kernel_rfl
 c4 := by kernel_rfl
 c5 := by kernel_rfl
 c9 := by kernel_rfl
 c20 := by kernel_rfl
 c21 := by kernel_rfl
 c37 := by kernel_rfl
 c46 := by kernel_rfl
 c51 := by kernel_rfl
 c53 := by kernel_rfl
 c75 := by kernel_rfl
 c80 := by kernel_rfl
 c85 := by kernel_rfl
 c127 := by kernel_rfl
 c143 := by kernel_rfl
 c145 := by kernel_rfl
 c167 := by kernel_rfl
 c168 := by kernel_rfl
 c171 := by kernel_rfl
 c173 := by kernel_rfl
 c175 := by kernel_rfl
 c210 := by kernel_rfl
 c212 := by kernel_rfl
 c213 := by kernel_rfl
 c232 := by kernel_rfl
 c233 := by kernel_rfl }
def Tryz.laysM173_ren : Go.Shelf.Ren := ⟨fun | 173 => 34 | 246 => 64 | 283 => 139 | 284 => 140 | 285 => 141 | 286 => 142 | 129 => 222 | 317 => 221 | 318 => 223 | 319 => 224 | 320 => 225 | 337 => 273 | 338 => 274 | n => n, fun | 2 => 2 | 3 => 3 | 9 => 9 | 4 => 4 | 171 => 182 | 0 => 0 | 53 => 183 | 37 => 140 | 5 => 5 | 173 => 186 | 212 => 234 | 51 => 235 | 20 => 20 | 213 => 236 | 46 => 237 | 232 => 317 | 233 => 318 | n => n, fun | 17 => 0 | 18 => 2 | 19 => 3 | n => n⟩
theorem Tryz.laysM173 : Go.Proofs.LaysM.n173 Tryz.prog Tryz.laysM173_ren := {
 mixed := by kernel_rfl
 f129 := Tryz.func222.trans (congrArg some (by kernel_rfl))
 f173 := Tryz.func34.trans (congrArg some (by kernel_rfl))
 f246 := Tryz.func64.trans (congrArg some (by kernel_rfl))
 f283 := Tryz.func139.trans (congrArg some (by kernel_rfl))
 f284 := Tryz.func140.trans (congrArg some (by kernel_rfl))
 f285 := Tryz.func141.trans (congrArg some (by kernel_rfl))
 f286 := Tryz.func142.trans (congrArg some (by kernel_rfl))
 f317 := Tryz.func221.trans (congrArg some (by kernel_rfl))
 f318 := Tryz.func223.trans (congrArg some (by kernel_rfl))
 f319 := Tryz.func224.trans (congrArg some (by kernel_rfl))
 f320 := Tryz.func225.trans (congrArg some (by kernel_rfl))
 f337 := Tryz.func273.trans (congrArg some (by kernel_rfl))
 f338 := Tryz.func274.trans (congrArg some (by kernel_rfl))
 t0 := Tryz.underlying0
 a0 := Tryz.isAgg0
 z0 := Tryz.sizeOf0
 v0 := Tryz.zeroValue0
 t2 := Tryz.underlying2
 a2 := Tryz.isAgg2
 z2 := Tryz.sizeOf2
 v2 := Tryz.zeroValue2
 t3 := Tryz.underlying3
 a3 := Tryz.isAgg3
 z3 := Tryz.sizeOf3
 v3 := Tryz.zeroValue3
 t4 := Tryz.underlying4
 a4 := Tryz.isAgg4
 z4 := Tryz.sizeOf4
 v4 := Tryz.zeroValue4
 t5 := Tryz.underlying5
 a5 := Tryz.isAgg5
 z5 := Tryz.sizeOf5
 v5 := Tryz.zeroValue5
 t9 := Tryz.underlying9
 a9 := Tryz.isAgg9
 z9 := Tryz.sizeOf9
 v9 := Tryz.zeroValue9
 t20 := Tryz.underlying20
 a20 := Tryz.isAgg20
 z20 := Tryz.sizeOf20
 v20 := Tryz.zeroValue20
 t37 := Tryz.underlying140
 a37 := Tryz.isAgg140
 z37 := Tryz.sizeOf140
 v37 := Tryz.zeroValue140
 t46 := Tryz.underlying237
 a46 := Tryz.isAgg237
 z46 := Tryz.sizeOf237
 v46 := Tryz.zeroValue237
 t51 := Tryz.underlying235
 a51 := Tryz.isAgg235
 z51 := Tryz.sizeOf235
 v51 := Tryz.zeroValue235
 t53 := Tryz.underlying183
 a53 := Tryz.isAgg183
 z53 := Tryz.sizeOf183
 v53 := Tryz.zeroValue183
 t171 := Tryz.underlying182
 a171 := Tryz.isAgg182
 z171 := Tryz.sizeOf182
 v171 := Tryz.zeroValue182
 t173 := Tryz.underlying186
 a173 := Tryz.isAgg186
 z173 := Tryz.sizeOf186
 v173 := Tryz.zeroValue186
 t212 := Tryz.underlying234
 a212 := Tryz.isAgg234
 z212 := Tryz.sizeOf234
 v212 := Tryz.zeroValue234
 t213 := Tryz.underlying236
 a213 := Tryz.isAgg236
 z213 := Tryz.sizeOf236
 t232 := Tryz.underlying317
 a232 := Tryz.isAgg317
 z232 := Tryz.sizeOf317
 v232 := Tryz.zeroValue317
 t233 := Tryz.underlying318
 a233 := Tryz.isAgg318
 z233 := Tryz.sizeOf318
 v233 := Tryz.zeroValue318
 g17 := by kernel_rfl
 g18 := by kernel_rfl
 g19 := by kernel_rfl
 i0 := by kernel_rfl
 i2 := by kernel_rfl
 i3 := by kernel_rfl
 i4 := by kernel_rfl
 i5 := by kernel_rfl
 i9 := by kernel_rfl
 i20 := by kernel_rfl
 i37 := by kernel_rfl
 i46 := by kernel_rfl
 i51 := by kernel_rfl
 i53 := by kernel_rfl
 i171 := by kernel_rfl
 i173 := by kernel_rfl
 i212 := by kernel_rfl
 i232 := by kernel_rfl
 i233 := by kernel_rfl
 m17 := by kernel_rfl
 m18 := by kernel_rfl
 m19 := by kernel_rfl }
end Go.Proofs
namespace Go.Num
open Go Go.Lib
def isDig (c : UInt8) : Prop := 48 ≤ c.toNat ∧ c.toNat ≤ 57
def allDig (d : List UInt8) : Prop := ∀ c ∈ d, isDig c
@[irreducible] def nxt (m : Nat) (c : UInt8) : Nat := m * 10 + (c.toNat - 48)
theorem nxt_eq (m : Nat) (c : UInt8) : nxt m c = m * 10 + (c.toNat - 48) := by unfold nxt; rfl
def valF (m : Nat) : List UInt8 → Nat
 |[] => m
 |c :: r => valF (nxt m c) r
abbrev val (d : List UInt8) : Nat := valF 0 d
theorem valF_nil (m : Nat) : valF m [] = m := rfl
theorem valF_cons (m : Nat) (c : UInt8) (r : List UInt8) : valF m (c :: r) = valF (nxt m c) r := rfl
def num (l : List UInt8) : Option Int :=
 match parseIntB 64 l with
 |.ok v => if itoa v = l then some v else none
 |_ => none
theorem valF_ge (m : Nat) : ∀ d : List UInt8, m ≤ valF m d
 |[] => Nat.le_refl _
 |c :: r => Nat.le_trans (by rw [nxt_eq]; omega) (valF_ge (nxt m c) r)
theorem valF_snoc (c : UInt8) : ∀ (m : Nat) (d : List UInt8), valF m (d ++ [c]) = valF m d * 10 + (c.toNat - 48)
 |m, [] => nxt_eq m c
 |m, x :: r => valF_snoc c (nxt m x) r
theorem parseM_ok : ∀ (d : List UInt8) (m : Nat), allDig d → valF m d ≤ 18446744073709551615 → parseUintM 18446744073709551615 m d = .ok (valF m d)
 |[], m, _, _ => by rw [valF_nil]; unfold parseUintM; rfl
 |c :: r, m, hd, hv => by
  have h1 : isDig c := hd c (by simp)
  have hge := valF_ge (nxt m c) r
  have hn := nxt_eq m c
  rw [valF_cons] at hv ⊢
  unfold parseUintM
  rw [if_pos (show 48 ≤ c.toNat ∧ c.toNat ≤ 57 from h1), if_neg (by omega), if_neg (by omega), ← hn]
  exact parseM_ok r _ (fun x hx => hd x (by simp [hx])) hv
def dgt (x : Nat) : UInt8 := UInt8.ofNat (48 + x)
theorem byte_dig {x : Nat} (h : x < 10) : isDig (dgt x) ∧ (dgt x).toNat = 48 + x := by
 unfold dgt
 have : (UInt8.ofNat (48 + x)).toNat = 48 + x := by rw [UInt8.toNat_ofNat']; omega
 exact ⟨⟨by omega, by omega⟩, this⟩
theorem dec_spec : ∀ (n u : Nat), u < n → allDig (decDigits u) ∧ decDigits u ≠ [] ∧ val (decDigits u) = u ∧ ((decDigits u).length = 1 ∨ (decDigits u).head? ≠ some 48) ∧ (u ≠ 0 → (decDigits u).head? ≠ some 48)
 |0, u, h => absurd h (by omega)
 |n + 1, u, h => by
  by_cases h10 : u < 10
  ·obtain ⟨h1, h2⟩ := byte_dig h10
   have e : decDigits u = [dgt u] := by rw [decDigits, dif_pos h10]; rfl
   rw [e]
   refine ⟨by intro c hc; simp at hc; subst hc; exact h1, by simp, ?_, .inl rfl, fun h0 => ?_⟩
   ·show valF 0 [dgt u] = u
    rw [valF_cons, valF_nil, nxt_eq, h2]; omega
   ·simp only [List.head?_cons, ne_eq, Option.some.injEq]
    intro e; have := congrArg UInt8.toNat e; rw [h2] at this; simp at this; omega
  ·obtain ⟨i1, i2, i3, i4, i5⟩ := dec_spec n (u / 10) (by omega)
   obtain ⟨h1, h2⟩ := byte_dig (x := u % 10) (by omega)
   have e : decDigits u = decDigits (u / 10) ++ [dgt (u % 10)] := by rw [decDigits, dif_neg h10]; rfl
   have hh : (decDigits u).head? ≠ some 48 := by
    obtain ⟨x, r, hx⟩ := List.exists_cons_of_ne_nil i2
    have := i5 (by omega)
    rw [e, hx]; rw [hx] at this; simpa using this
   refine ⟨?_, by rw [e]; simp, ?_, .inr hh, fun _ => hh⟩
   ·rw [e]; intro c hc
    rcases List.mem_append.1 hc with hc | hc
    ·exact i1 c hc
    ·simp at hc; subst hc; exact h1
   ·rw [e]
    have := valF_snoc (dgt (u % 10)) 0 (decDigits (u / 10))
    rw [h2] at this
    have i3' : valF 0 (decDigits (u / 10)) = u / 10 := i3
    rw [i3'] at this
    show valF 0 _ = u
    rw [this]; omega
theorem dec_len : ∀ (k u : Nat), u < 10 ^ (k + 1) → (decDigits u).length ≤ k + 1
 |0, u, h => by rw [decDigits, dif_pos (by simpa using h)]; simp
 |k + 1, u, h => by
  rw [decDigits]
  split
  ·simp
  ·have := dec_len k (u / 10) (by rw [Nat.pow_succ] at h; omega)
   simp; omega
theorem parse_range {T : Nat} (hT : T = 9223372036854775808) {l : List UInt8} {v : Int} (hx : parseIntB 64 l = .ok v) : -(T : Int) ≤ v ∧ v < T := by
 unfold parseIntB at hx
 split at hx
 ·cases hx
 ·rename_i c r
  simp only at hx
  split at hx
  ·cases hx
  ·cases hx
  ·rename_i u hu
   have e : 2 ^ (64 - 1) = T := by rw [hT]
   rw [e] at hx
   split at hx
   ·cases hx
   ·rename_i h1
    split at hx
    ·cases hx
    ·rename_i h2
     simp at hx; subst hx
     split <;> rename_i hneg
     ·have : u ≤ T := by
       rcases Nat.lt_or_ge T u with h | h
       ·exact absurd ⟨hneg, h⟩ h2
       ·exact h
      omega
     ·have : u < T := by
       rcases Nat.lt_or_ge u T with h | h
       ·exact h
       ·exact absurd ⟨hneg, h⟩ h1
      omega
theorem num_iff {T : Nat} (hT : T = 9223372036854775808) (l : List UInt8) (v : Int) : num l = some v ↔ (-(T : Int) ≤ v ∧ v < T) ∧ itoa v = l := by
 unfold num
 constructor
 ·intro h
  split at h
  ·rename_i x hx
   split at h
   ·rename_i hi
    simp at h; subst h
    refine ⟨?_, hi⟩
    unfold parseIntB at hx
    split at hx
    ·cases hx
    ·rename_i c r
     simp only at hx
     split at hx
     ·cases hx
     ·cases hx
     ·rename_i u hu
      have e : 2 ^ (64 - 1) = T := by rw [hT]
      rw [e] at hx
      split at hx
      ·cases hx
      ·rename_i h1
       split at hx
       ·cases hx
       ·rename_i h2
        simp at hx; subst hx
        split <;> rename_i hneg
        ·have : u ≤ T := by
          rcases Nat.lt_or_ge T u with h | h
          ·exact absurd ⟨hneg, h⟩ h2
          ·exact h
         omega
        ·have : u < T := by
          rcases Nat.lt_or_ge u T with h | h
          ·exact h
          ·exact absurd ⟨hneg, h⟩ h1
         omega
   ·cases h
  ·cases h
 ·rintro ⟨⟨h0, h1⟩, rfl⟩
  have key : parseIntB 64 (itoa v) = .ok v := by
   have e : 2 ^ (64 - 1) = T := by rw [hT]
   have eM : 2 ^ 64 - 1 = 18446744073709551615 := by decide
   unfold itoa
   split
   ·rename_i hneg
    obtain ⟨i1, i2, i3, i4, i5⟩ := dec_spec (v.natAbs + 1) v.natAbs (by omega)
    have i3' : valF 0 (decDigits v.natAbs) = v.natAbs := i3
    have c45 : (45 : UInt8).toNat = 45 := rfl
    have hp : parseUintB 64 (decDigits v.natAbs) = .ok v.natAbs := by
     unfold parseUintB
     rw [if_neg i2, eM, parseM_ok _ 0 i1 (by rw [i3']; omega), i3']
    unfold parseIntB
    simp only [c45, if_true, or_true, hp, e]
    rw [if_neg (by simp), if_neg (by omega)]
    congr 1; omega
   ·rename_i hneg
    obtain ⟨i1, i2, i3, i4, i5⟩ := dec_spec (v.toNat + 1) v.toNat (by omega)
    have i3' : valF 0 (decDigits v.toNat) = v.toNat := i3
    obtain ⟨x, r, hx⟩ := List.exists_cons_of_ne_nil i2
    have hxd : isDig x := i1 x (by rw [hx]; simp)
    have hx1 : 48 ≤ x.toNat := hxd.1
    have hp : parseUintB 64 (x :: r) = .ok v.toNat := by
     rw [← hx]
     unfold parseUintB
     rw [if_neg i2, eM, parseM_ok _ 0 i1 (by rw [i3']; omega), i3']
    rw [hx]
    have n1 : ¬ x.toNat = 45 := by omega
    unfold parseIntB
    have n3 : ¬ x.toNat = 43 := by omega
    simp only [n1, n3, or_self, if_false, hp, e, false_and, not_false_eq_true, true_and]
    rw [if_neg (by omega)]
    congr 1; omega
  rw [key]
  simp
end Go.Num
namespace Go.Proofs.YtjnijlnmbjjgpaaGreatDoor
open Go Go.Sx C
def IfaceV (v : Value) : Prop := v = .nilIface ∨ ∃ te pe, v = .iface te pe
def LaidN (h : Heap) : Prop := (∃ t fr, h[0]? = some (.cells (Lib.pow10Tab.map fun z => Value.int .u64 z).toArray t fr)) ∧ (∃ v, cell h 4 0 = some v ∧ IfaceV v) ∧ (∃ v, cell h 5 0 = some v ∧ IfaceV v)
theorem LaidN.ext {h h' : Heap} (hl : LaidN h) (hc : Chg [] h h') : LaidN h' := by
 obtain ⟨⟨t, fr, h1⟩, ⟨v, h2, h3⟩, ⟨u, h4, h5⟩⟩ := hl
 exact ⟨⟨t, fr, get_ext hc.ext h1⟩, ⟨v, cell_chg h2 hc (by simp), h3⟩, ⟨u, cell_chg h4 hc (by simp), h5⟩⟩
theorem chg_of_below {w w' : World} {h : Heap} (hw : w.heap = h) (hb : RowKit.Below w.heap.size w w') : Chg [] h w'.heap := by
 subst hw
 exact ⟨hb.size, fun k hk _ => hb.block k hk⟩
theorem wcell {w : World} {h : Heap} {b : Nat} {v : Value} (hw : w.heap = h) (hc : cell h b 0 = some v) : w.cell? ⟨b, 0, none⟩ = some v := by
 subst hw
 unfold cell at hc
 unfold World.cell?
 split at hc
 ·rename_i c t k hx
  rw [hx]; simpa using hc
 ·cases hc
def ParseP (l : List UInt8) (r : Value) : Prop :=
 (∃ v, Lib.parseIntB 64 l = .ok v ∧ r = .tuple #[.int .i64 v, .nilIface]) ∨ ((∀ v, Lib.parseIntB 64 l ≠ .ok v) ∧ ∃ n t p, r = .tuple #[.int .i64 n, .iface t p])
theorem parse_calls {h : Heap} {l : List UInt8} (hl : LaidN h) (hs : l.length < 281474976710656) : CallsH Tryz.prog 234 [.string ⟨⟨l⟩⟩, .int .i64 10, .int .i64 64] h (Ret fun r h' => ParseP l r ∧ Chg [] h h') := by
 refine ⟨by kernel_rfl, fun w hw => ?_⟩
 obtain ⟨_, ⟨v1, c1, i1⟩, ⟨v2, c2, i2⟩⟩ := hl
 have hsz : (⟨⟨l⟩⟩ : ByteArray).size = l.length := rfl
 rcases hp : Lib.parseIntB 64 l with v | _ | _
 ·refine (Go.Proofs.Any.strconv_ParseInt_10_at64_ok Go.Proofs.Tryz.laysC174 ⟨⟨l⟩⟩ (by omega) v hp w).mono ?_
  rintro e w' ⟨rfl, hW⟩
  have hb : RowKit.Below w.heap.size w w' := by
   rcases hW with rfl | ⟨t, rfl⟩
   ·exact RowKit.Below.refl _ _
   ·exact Lib.bytesWorld_below _ _ _
  exact ⟨⟨.inl ⟨v, hp, rfl⟩, chg_of_below hw hb⟩, by simp, hb.os, hb.output, hb.tape⟩
 ·refine (Go.Proofs.Any.strconv_ParseInt_10_at64_syntax Go.Proofs.Tryz.laysC174 ⟨⟨l⟩⟩ (by omega) hp v1 w (wcell hw c1) i1).mono ?_
  rintro e w' ⟨N, rfl, _, _, hb⟩
  exact ⟨⟨.inr ⟨fun v hv => (by rw [hp] at hv; cases hv), _, _, _, rfl⟩, chg_of_below hw hb⟩, by simp, hb.os, hb.output, hb.tape⟩
 ·refine (Go.Proofs.Any.strconv_ParseInt_10_at64_range Go.Proofs.Tryz.laysC174 ⟨⟨l⟩⟩ (by omega) hp v2 w (wcell hw c2) i2).mono ?_
  rintro e w' ⟨N, rfl, _, _, hb⟩
  exact ⟨⟨.inr ⟨fun v hv => (by rw [hp] at hv; cases hv), _, _, _, rfl⟩, chg_of_below hw hb⟩, by simp, hb.os, hb.output, hb.tape⟩
theorem tab_of {w : World} {h : Heap} (hw : w.heap = h) (hl : LaidN h) : Lib.TabIs Tryz.prog w "internal/strconv.uint64pow10" .u64 Lib.pow10Tab := by
 obtain ⟨⟨t, fr, h1⟩, _⟩ := hl
 have hg : Tryz.prog.globalNamed "internal/strconv.uint64pow10" = some 0 := by kernel_rfl
 unfold Lib.TabIs World.var?
 rw [hg]
 show (match w.heap[0]? with | some (.cells cs _ _) => some cs | _ => none) = _
 rw [hw, h1]
theorem format_calls {h : Heap} {n : Int} (hl : LaidN h) (h0 : -9223372036854775808 ≤ n) (h1 : n ≤ 9223372036854775807) : CallsH Tryz.prog 34 [.int .i64 n, .int .i64 10] h (Ret fun r h' => r = .string ⟨⟨Lib.itoa n⟩⟩ ∧ Chg [] h h') := by
 refine ⟨by kernel_rfl, fun w hw => ?_⟩
 refine (Go.Proofs.Any.strconv_FormatInt_10 Go.Proofs.Tryz.laysM173 n h0 h1 w (tab_of hw hl)).mono ?_
 rintro e w' ⟨rfl, k, os, rfl⟩
 refine ⟨⟨rfl, ?_⟩, by simp, rfl, rfl, rfl⟩
 subst hw
 refine ⟨by simp [Go.Sort.grow, World.drewN], fun j hj _ => ?_⟩
 simp [Go.Sort.grow, World.drewN, Array.getElem?_append, hj]
theorem bnum_calls {h : Heap} {l : List UInt8} (hl : LaidN h) (hs : l.length < 281474976710656) :
  CallsH Tryz.prog 164 [.string ⟨⟨l⟩⟩] h (Ret fun r h' => r = .tuple #[.int .i64 ((Num.num l).getD 0), .bool (Num.num l).isSome] ∧ Chg [] h h') := by
 refine f164_calls (by simp) ?_
 refine call_ret (parse_calls hl hs) ?_
 rintro r h1 ⟨hp, c1⟩
 rcases hp with ⟨v, hv, rfl⟩ | ⟨hno, n, t, p, rfl⟩
 ·obtain ⟨r0, r1⟩ := Num.parse_range rfl hv
  refine call_ret (format_calls (hl.ext c1) (by omega) (by omega)) ?_
  rintro _ h2 ⟨rfl, c2⟩
  have c := c1.nil c2
  refine Ai (fun hne => ?_) (fun heq => ?_)
  ·have e : Num.num l = none := by
    unfold Num.num
    rw [hv]
    simp only
    rw [if_neg]
    intro e; exact hne (by rw [e])
   rw [e]
   exact Ai rfl c
  ·have e : Num.num l = some v := by
    unfold Num.num
    rw [hv]
    simp only
    rw [if_pos]
    have := Classical.not_not.1 heq
    injection this with this
    injection this
   rw [e]
   exact Ai rfl c
 ·have e : Num.num l = none := by
   unfold Num.num
   split
   ·rename_i v hv; exact absurd hv (hno v)
   ·rfl
  rw [e]
  exact Ai rfl c1
def wNum : ByteArray := ⟨#[69, 82, 82, 32, 110, 117, 109, 98, 101, 114]⟩
def wOver : ByteArray := ⟨#[69, 82, 82, 32, 111, 118, 101, 114]⟩
theorem drops_len (S : Space) (key : ByteArray) (now : Int) : (dropsS S key now).length ≤ 1 := by
 unfold dropsS; split <;> simp
theorem one_sl {h : Heap} {b : Nat} {e : Eff} (hB : Blk h b (encD e)) : SL encD h (.slice (some ⟨b, 0, none⟩) 1 1) [e] := by
 refine ⟨_, 1, rfl, Nat.le_refl _, ?_⟩
 have := cells_blk hB
 simpa [Src] using this
def repV (k i : Int) (s : ByteArray) : Value := .agg ⟨[.int .i64 k, .int .i64 i, .string s, .slice none 0 0]⟩
theorem repV_ones (k i : Int) (s : ByteArray) : ∀ u ∈ (repV k i s).cells.toList, u.oneCell' = true := by
 intro u hu
 have hu : u ∈ [Value.int .i64 k, .int .i64 i, .string s, .slice none 0 0] := hu
 simp at hu
 rcases hu with rfl | rfl | rfl | rfl <;> rfl
def okSum (a b : Int) : Prop := -9223372036854775808 ≤ a + b ∧ a + b ≤ 9223372036854775807
def In64 (a : Int) : Prop := -9223372036854775808 ≤ a ∧ a ≤ 9223372036854775807
def numOf (s : ByteArray) : Option Int := Num.num s.data.toList
end Go.Proofs.YtjnijlnmbjjgpaaGreatDoor
namespace Go.Sx
open Go
inductive En : Type 1 where
 |b (k : Nat) (l : List Value)
 |w (k : Nat) (l : List Value)
 |m (k : Nat) (es : List MapEntry) (c : Nat)
 |o {α : Type} (enc : α → List Value) (size : Nat) (v : Value) (l : List α)
 |x (f : List Nat) (p : Heap → Prop) (st : ∀ S h h', Chg S h h' → (∀ b ∈ f, b ∉ S) → p h → p h') (lt : ∀ h, p h → ∀ b ∈ f, b < h.size)
def En.fp : En → List Nat
 |.b k _ => [k]
 |.w k _ => [k]
 |.m k _ _ => [k]
 |.o _ _ v _ => vblk v
 |.x f _ _ _ => f
def En.at (h : Heap) : En → Prop
 |.b k l => Blk h k l
 |.w k l => BlkW h k l
 |.m k es c => MapB h k es c
 |.o enc size v l => OL enc size h v l
 |.x _ p _ _ => p h
theorem BlkW.chg' {S : List Nat} {h h' : Heap} {b : Nat} {l : List Value} (hb : BlkW h b l) (hc : Chg S h h') (hn : b ∉ S) : BlkW h' b l := let ⟨e, k, x, y⟩ := hb; ⟨e, k, get_chg x hc hn, y⟩
theorem BlkW.lt' {h : Heap} {b : Nat} {l : List Value} (hb : BlkW h b l) : b < h.size := let ⟨_, _, x, _⟩ := hb; get_lt x
theorem En.chg {S : List Nat} {h h' : Heap} : ∀ {e : En}, e.at h → Chg S h h' → (∀ b ∈ e.fp, b ∉ S) → e.at h'
 |.b _ _, he, hc, hn => Blk.chg he hc (hn _ (List.mem_singleton.2 rfl))
 |.w _ _, he, hc, hn => BlkW.chg' he hc (hn _ (List.mem_singleton.2 rfl))
 |.m _ _ _, he, hc, hn => MapB.chg he hc (hn _ (List.mem_singleton.2 rfl))
 |.o _ _ _ _, he, hc, hn => OL.chg he hc hn
 |.x _ _ st _, he, hc, hn => st _ _ _ hc hn he
theorem En.lt {h : Heap} : ∀ {e : En}, e.at h → ∀ q ∈ e.fp, q < h.size
 |.b _ _, he, q, hq => by rw [List.mem_singleton.1 hq]; exact Blk.lt he
 |.w _ _, he, q, hq => by rw [List.mem_singleton.1 hq]; exact BlkW.lt' he
 |.m _ _ _, he, q, hq => by rw [List.mem_singleton.1 hq]; exact MapB.lt he
 |.o _ _ _ _, he, q, hq => OL.lt he q hq
 |.x _ _ _ lt, he, q, hq => lt _ he q hq
structure St (T : List Nat) (h0 h : Heap) (L : List En) : Prop where
 chg : Chg T h0 h
 ents : ∀ (i : Nat) (e : En), L[i]? = some e → e.at h ∧ ∀ b ∈ e.fp, b ∈ T ∨ h0.size ≤ b
 apart : ∀ (i j : Nat) (e f : En), L[i]? = some e → L[j]? = some f → i ≠ j → ∀ b ∈ e.fp, b ∉ f.fp
variable {T : List Nat} {h0 h h' : Heap} {L : List En} {e e' : En}
theorem St.start (h : Heap) : St [] h h [] := ⟨Chg.refl h, fun i e hi => by simp at hi, fun i j e f hi => by simp at hi⟩
theorem St.get (w : St T h0 h L) (i : Nat) (hi : L[i]? = some e) : e.at h := (w.ents i e hi).1
theorem St.size (w : St T h0 h L) : h0.size ≤ h.size := w.chg.size
theorem St.ext (w : St T h0 h L) (hc : Chg [] h h') : St T h0 h' L :=
 ⟨w.chg.trans hc (fun _ hk => hk) (by simp), fun i e hi => ⟨En.chg (w.ents i e hi).1 hc (by simp), (w.ents i e hi).2⟩, w.apart⟩
theorem St.add (w : St T h0 h L) (hc : Chg [] h h') (he : e.at h') (hf : ∀ b ∈ e.fp, h.size ≤ b) : St T h0 h' (e :: L) := by
 have w' := w.ext hc
 have hz := w.size
 refine ⟨w'.chg, fun i e' hi => ?_, fun i j e1 e2 hi hj hn b h1 h2 => ?_⟩
 ·cases i with
  |zero => cases hi; exact ⟨he, fun b hb => .inr (by have := hf b hb; omega)⟩
  |succ i => exact w'.ents i e' hi
 ·cases i with
  |zero =>
   cases hi
   cases j with
   |zero => exact hn rfl
   |succ j =>
    have := En.lt (w.get j hj) b h2
    have := hf b h1
    omega
  |succ i =>
   cases j with
   |zero =>
    cases hj
    have := En.lt (w.get i hi) b h1
    have := hf b h2
    omega
   |succ j => exact w.apart i j e1 e2 hi hj (by omega) b h1 h2
theorem St.new (w : St T h0 h L) {b : Nat} {z : List Value} (g : Grow h h' b z) : St T h0 h' (.b b z :: L) :=
 w.add g.chg (show Blk h' b z from g.blk) fun k hk => by rw [List.mem_singleton.1 hk, g.id]; exact Nat.le_refl _
theorem St.newm (w : St T h0 h L) {b : Nat} {es : List MapEntry} {c : Nat} (g : GrowO h h' b (.map ⟨es⟩ c)) : St T h0 h' (.m b es c :: L) :=
 w.add g.chg (show MapB h' b es c from g.blk) fun k hk => by rw [List.mem_singleton.1 hk, g.id]; exact Nat.le_refl _
theorem St.set (w : St T h0 h L) {S : List Nat} (i : Nat) (hi : L[i]? = some e) (hc : Chg S h h') (hS : ∀ b ∈ S, b ∈ e.fp ∨ h.size ≤ b) (he : e'.at h') (hf : ∀ b ∈ e'.fp, b ∈ e.fp ∨ h.size ≤ b) : St T h0 h' (L.set i e') := by
 have hz := w.size
 have hil : i < L.length := (List.getElem?_eq_some_iff.1 hi).1
 refine ⟨w.chg.trans hc (fun _ hk => hk) (fun k hk hlt => ?_), fun j f hj => ?_, fun j k f g hj hk hn b h1 h2 => ?_⟩
 ·rcases hS k hk with h1 | h1
  ·rcases (w.ents i e hi).2 k h1 with h2 | h2
   ·exact h2
   ·omega
  ·omega
 ·by_cases hij : i = j
  ·subst hij
   rw [List.getElem?_set_self hil] at hj
   cases hj
   refine ⟨he, fun b hb => ?_⟩
   rcases hf b hb with h1 | h1
   ·exact (w.ents i e hi).2 b h1
   ·exact .inr (by omega)
  ·rw [List.getElem?_set_ne hij] at hj
   refine ⟨En.chg (w.get j hj) hc fun b hb hbS => ?_, (w.ents j f hj).2⟩
   rcases hS b hbS with h1 | h1
   ·exact w.apart i j e f hi hj hij b h1 hb
   ·have := En.lt (w.get j hj) b hb; omega
 ·by_cases hij : i = j
  ·subst hij
   rw [List.getElem?_set_self hil] at hj
   rw [List.getElem?_set_ne hn] at hk
   cases hj
   rcases hf b h1 with h3 | h3
   ·exact w.apart i k e g hi hk hn b h3 h2
   ·have := En.lt (w.get k hk) b h2; omega
  ·rw [List.getElem?_set_ne hij] at hj
   by_cases hik : i = k
   ·subst hik
    rw [List.getElem?_set_self hil] at hk
    cases hk
    rcases hf b h2 with h3 | h3
    ·exact w.apart i j e f hi hj hij b h3 h1
    ·have := En.lt (w.get j hj) b h1; omega
   ·rw [List.getElem?_set_ne hik] at hk
    exact w.apart j k f g hj hk hn b h1 h2
def picks (L : List En) : List Nat → List En
 |[] => []
 |i :: l => match L[i]? with
  |some e => e :: picks L l
  |none => picks L l
theorem picks_get : ∀ {is : List Nat} {k : Nat} {e : En}, (picks L is)[k]? = some e → ∃ j i : Nat, is[j]? = some i ∧ L[i]? = some e ∧ k ≤ j ∧ True
 |[], _, _, hk => by simp [picks] at hk
 |i :: is, k, e, hk => by
  simp only [picks] at hk
  split at hk
  ·rename_i e1 he1
   cases k with
   |zero => cases hk; exact ⟨0, i, rfl, he1, Nat.le_refl _, trivial⟩
   |succ k =>
    obtain ⟨j, i', h1, h2, h3, _⟩ := picks_get (is := is) hk
    exact ⟨j + 1, i', h1, h2, by omega, trivial⟩
  ·obtain ⟨j, i', h1, h2, h3, _⟩ := picks_get (is := is) hk
   exact ⟨j + 1, i', h1, h2, by omega, trivial⟩
theorem picks_two : ∀ {is : List Nat} {k l : Nat} {e f : En}, is.Nodup → (picks L is)[k]? = some e → (picks L is)[l]? = some f → k ≠ l → ∃ i j : Nat, L[i]? = some e ∧ L[j]? = some f ∧ i ≠ j ∧ i ∈ is ∧ j ∈ is
 |[], _, _, _, _, _, hk, _, _ => by simp [picks] at hk
 |i :: is, k, l, e, f, hd, hk, hl, hn => by
  obtain ⟨hi, hd⟩ := List.nodup_cons.1 hd
  simp only [picks] at hk hl
  split at hk
  ·rename_i e1 he1
   rw [he1] at hl
   cases k with
   |zero =>
    cases hk
    cases l with
    |zero => exact absurd rfl hn
    |succ l =>
     obtain ⟨j, i', h1, h2, _⟩ := picks_get (is := is) hl
     have hm : i' ∈ is := List.mem_of_getElem? h1
     exact ⟨i, i', he1, h2, fun e => hi (e ▸ hm), by simp, by simp [hm]⟩
   |succ k =>
    cases l with
    |zero =>
     cases hl
     obtain ⟨j, i', h1, h2, _⟩ := picks_get (is := is) hk
     have hm : i' ∈ is := List.mem_of_getElem? h1
     exact ⟨i', i, h2, he1, fun e => hi (e ▸ hm), by simp [hm], by simp⟩
    |succ l =>
     obtain ⟨a, b, h1, h2, h3, h4, h5⟩ := picks_two (is := is) hd hk hl (by omega)
     exact ⟨a, b, h1, h2, h3, by simp [h4], by simp [h5]⟩
  ·rename_i hno
   have hl : (match L[i]? with | some e => e :: picks L is | none => picks L is)[l]? = some f := hl
   rw [hno] at hl
   obtain ⟨a, b, h1, h2, h3, h4, h5⟩ := picks_two (is := is) hd hk hl hn
   exact ⟨a, b, h1, h2, h3, by simp [h4], by simp [h5]⟩
theorem St.pick (w : St T h0 h L) (is : List Nat) (hd : is.Nodup) : St T h0 h (picks L is) := by
 refine ⟨w.chg, fun k e hk => ?_, fun k l e f hk hl hn => ?_⟩
 ·obtain ⟨_, i, _, hi, _⟩ := picks_get hk
  exact w.ents i e hi
 ·obtain ⟨i, j, h1, h2, h3, _⟩ := picks_two hd hk hl hn
  exact w.apart i j e f h1 h2 h3
theorem St.ld {b o : Nat} {us : List Value} {v : Value} (w : St T h0 h L) (i : Nat) (hi : L[i]? = some (.b b us)) (hv : us[o]? = some v) : cell h b o = some v := cell_blk (w.get i hi) hv
theorem St.ld1 {b o : Nat} {us : List Value} {v : Value} {K : Value → Prop} (w : St T h0 h L) (i : Nat) (hi : L[i]? = some (.b b us)) (hv : us[o]? = some v) (k : K v) : ∃ v, cell h b o = some v ∧ K v := ⟨v, w.ld i hi hv, k⟩
theorem St.ldw {b n : Nat} {us : List Value} {K : List Value → Prop} (w : St T h0 h L) (i : Nat) (hi : L[i]? = some (.b b us)) (hn : us.length = n) (k : K us) : ∃ vs, vs.length = n ∧ Cells h b 0 vs ∧ K vs := ⟨us, hn, cells_blk (w.get i hi), k⟩
theorem St.put {b : Nat} {us l' : List Value} (w : St T h0 h L) (i : Nat) (hi : L[i]? = some (.b b us)) (p : Put h h' b l') : St T h0 h' (L.set i (.b b l')) :=
 w.set i hi p.chg (fun _ hk => .inl hk) (show Blk h' b l' from p.blk) (fun _ hk => .inl hk)
theorem St.st1 {b o n : Nat} {l ys : List Value} {K : Heap → Prop} (w : St T h0 h L) (i : Nat) (hi : L[i]? = some (.b b l)) (h1 : Nat.ble (o + n) l.length = true) (h2 : ys.length = n) (h3 : ys.all Value.oneCell' = true)
  (k : ∀ h', St T h0 h' (L.set i (.b b (splice l o ys))) → K h') : ∃ l, Blk h b l ∧ o + n ≤ l.length ∧ ys.length = n ∧ (∀ u ∈ ys, u.oneCell' = true) ∧ ∀ h', Put h h' b (splice l o ys) → K h' :=
 ⟨l, w.get i hi, Nat.le_of_ble_eq_true h1, h2, fun u hu => List.all_eq_true.1 h3 u hu, fun h' p => k h' (w.put i hi p)⟩
theorem St.st2 {b o n : Nat} {l ys : List Value} {K : Heap → Prop} (w : St T h0 h L) (i : Nat) (hi : L[i]? = some (.b b l)) (h1 : Nat.ble (o + n) l.length = true) (h2 : ys.length = n) (h3 : ys.all Value.oneCell' = true)
  (k : ∀ h', St T h0 h' (L.set i (.b b (splice l o ys))) → Chg [b] h h' → K h') : ∃ l, Blk h b l ∧ o + n ≤ l.length ∧ ys.length = n ∧ (∀ u ∈ ys, u.oneCell' = true) ∧ ∀ h', Put h h' b (splice l o ys) → K h' :=
 ⟨l, w.get i hi, Nat.le_of_ble_eq_true h1, h2, fun u hu => List.all_eq_true.1 h3 u hu, fun h' p => k h' (w.put i hi p) p.chg⟩
def En.nil : En := .x [] (fun _ => True) (fun _ _ _ _ _ _ => trivial) (fun _ _ b hb => (nomatch hb))
theorem St.gone (w : St T h0 h L) {S : List Nat} (i : Nat) (hi : L[i]? = some e) (hc : Chg S h h') (hS : ∀ b ∈ S, b ∈ e.fp ∨ h.size ≤ b) : St T h0 h' (L.set i En.nil) := w.set i hi hc hS trivial fun b hb => (nomatch (show b ∈ ([] : List Nat) from hb))
theorem St.ne {b b' : Nat} {l l' : List Value} (w : St T h0 h L) (i j : Nat) (hi : L[i]? = some (.b b l)) (hj : L[j]? = some (.b b' l')) (hn : i ≠ j) : b ≠ b' := fun e => w.apart i j _ _ hi hj hn b (List.mem_singleton.2 rfl) (List.mem_singleton.2 e)
theorem St.app {α : Type} {enc : α → List Value} {size bytes : Nat} {z : List Value} {a a' : Option Addr} {n c m c2 : Nat} {l l2 : List α} {K : Value → Heap → Prop} (w : St T h0 h L) (i : Nat) (hi : L[i]? = some (.o enc size (.slice a n c) l))
  (hsz : ∀ x, (enc x).length = size) (h1 : ∀ x, ∀ u ∈ enc x, u.oneCell' = true) (hz : z.length = size) (hsrc : SL enc h (.slice a' m c2) l2) (hbound : ((l.length + l2.length) * 2 + 768) * bytes ≤ 281474976710656)
  (k : ∀ v' h', St T h0 h' (L.set i (.o enc size v' (l ++ l2))) → K v' h') : appP h K size bytes z a n c a' m :=
 app_own hsz h1 hz (w.get i hi) hsrc hbound fun v' h' ho hc hb => k v' h' (w.set i hi hc (fun _ hk => .inl hk) ho hb)
theorem St.mput {b : Nat} {es es' : List MapEntry} {c c' : Nat} (w : St T h0 h L) (i : Nat) (hi : L[i]? = some (.m b es c)) (p : PutO h h' b (.map ⟨es'⟩ c')) : St T h0 h' (L.set i (.m b es' c')) :=
 w.set i hi p.chg (fun _ hk => .inl hk) (show MapB h' b es' c' from p.blk) (fun _ hk => .inl hk)
structure As (h0 h : Heap) (e : En) : Prop where
 chg : Chg [] h0 h
 at_ : e.at h
 fresh : ∀ b ∈ e.fp, h0.size ≤ b
structure Own (e : En) (h : Heap) (e' : En) (h' : Heap) : Prop where
 at_ : e'.at h'
 chg : Chg e.fp h h'
 fresh : ∀ b ∈ e'.fp, b ∈ e.fp ∨ h.size ≤ b
theorem As.st (x : As h0 h e) : St e.fp h h [e] := by
 refine ⟨(Chg.refl h).mono (by simp), fun i e1 hi => ?_, fun i j e1 f hi hj hn => ?_⟩
 ·match i, hi with
  |0, hi => cases hi; exact ⟨x.at_, fun b hb => .inl hb⟩
 ·match i, j, hi, hj, hn with
  |0, 0, _, _, hn => exact absurd rfl hn
theorem As.base {M : List En} (x : As h0 h e) (w : St e.fp h h' M) : Chg [] h0 h' := x.chg.fresh w.chg x.fresh
theorem As.ext (x : As h0 h e) (hc : Chg [] h h') : As h0 h' e := ⟨x.chg.nil hc, En.chg x.at_ hc (by simp), x.fresh⟩
theorem As.out {M : List En} (x : As h0 h e) (w : St e.fp h h' M) (i : Nat) (hi : M[i]? = some e') : As h0 h' e' ∧ Own e h e' h' := by
 have hz := x.chg.size
 obtain ⟨h1, h2⟩ := w.ents i e' hi
 refine ⟨⟨x.base w, h1, fun b hb => ?_⟩, h1, w.chg, h2⟩
 rcases h2 b hb with h3 | h3
 ·exact x.fresh b h3
 ·omega
theorem St.own {M : List En} (w : St T h0 h M) (i : Nat) (hi : M[i]? = some e) (o : Own e h e' h') : St T h0 h' (M.set i e') := w.set i hi o.chg (fun _ hk => .inl hk) o.at_ o.fresh
theorem Own.refl (he : e.at h) (hc : Chg [] h h') : Own e h e h' := ⟨En.chg he hc (by simp), hc.mono (by simp), fun _ hb => .inl hb⟩
theorem St.as {M : List En} (w : St [] h0 h M) (i : Nat) (hi : M[i]? = some e) : As h0 h e := ⟨w.chg, w.get i hi, fun b hb => by
 rcases (w.ents i e hi).2 b hb with h1 | h1
 ·cases h1
 ·exact h1⟩
section
variable {P : Program} {f : Nat} {vs : List Value} {K : Value → Heap → Prop} {Qp : List PanicEntry → Heap → Prop} {v : Value}
theorem St.callv (w : St T h0 h L) (hc : CallsH P f vs h (Ret fun r h' => r = v ∧ Chg [] h h')) (k : ∀ h', St T h0 h' L → K v h') : CallsH P f vs h (after K Qp) :=
 call_ret hc fun r h' hr => by obtain ⟨rfl, hch⟩ := hr; exact k h' (w.ext hch)
theorem callp (hc : CallsH P f vs h (Ret fun r h' => r = v ∧ h' = h)) (k : K v h) : CallsH P f vs h (after K Qp) :=
 call_ret hc fun r h' hr => by obtain ⟨rfl, e⟩ := hr; have e := e.symm; subst e; exact k
theorem St.callqv (w : St T h0 h L) (hc : CallsH P f vs h (Ret fun r h' => r = v ∧ Chg [] h h')) (k : ∀ h', St T h0 h' L → K v h') : CallsH P f vs h (fun e h' => Ext h h' ∧ after K Qp e h') :=
 callq_ret hc fun r h' hr => by obtain ⟨rfl, hch⟩ := hr; exact ⟨hch.ext, k h' (w.ext hch)⟩
end
end Go.Sx
namespace Go.Proofs.YtjnijlnmbjjgpaaGreatDoor
open Go Go.Sx C
section
variable {h0 h h1 h' : Heap} {ab kb : Nat} {now : Int} {av lv lv' : Value} {A : List ByteArray} {L E : List Eff} {M : List En} {T : List Nat}
end
def thE (t : Thing) (pv lv rv : Value) : En :=
 .x (bl3 pv lv rv) (fun h => TH h (cellsT t pv lv rv) t ∧ ∀ b ∈ bl3 pv lv rv, b < h.size) (fun S h h' hc hn ⟨h1, h2⟩ => ⟨th_off h1 hc hn, fun b hb => Nat.lt_of_lt_of_le (h2 b hb) hc.size⟩) (fun h ⟨_, h2⟩ b hb => h2 b hb)
structure Rep where
 k : Int
 i : Int
 s : ByteArray
 l : List (Int × Int × ByteArray)
abbrev rep (k i : Int) (s : ByteArray) : Rep := ⟨k, i, s, []⟩
def encQ (x : Int × Int × ByteArray) : List Value := [.int .i64 x.1, .int .i64 x.2.1, .string x.2.2, .slice none 0 0]
theorem encQ_len (x : Int × Int × ByteArray) : (encQ x).length = 4 := rfl
theorem encQ_one (x : Int × Int × ByteArray) : ∀ u ∈ encQ x, u.oneCell' = true := repV_ones x.1 x.2.1 x.2.2
def RepAt (z : Nat) (h : Heap) (v : Value) (q : Rep) : Prop := ∃ a n c, v = .agg ⟨[.int .i64 q.k, .int .i64 q.i, .string q.s, .slice a n c]⟩ ∧ SL encQ h (.slice a n c) q.l ∧ ∀ b ∈ ablk a, z ≤ b
theorem four {ws vs : List Value} (hw : ws.length = 4) (hv : vs.length = 4) : splice ws 0 vs = vs := by
 match ws, hw, vs, hv with
 |[_, _, _, _], _, [_, _, _, _], _ => rfl
section
variable {h0 h h1 h' : Heap} {ab kb sb mb c b2 : Nat} {now lo hi k n : Int} {av lv lv' : Value} {A : List ByteArray} {L E : List Eff} {M : List En} {T : List Nat} {s key why : ByteArray} {m : List KI} {S : Space} {res : Except ByteArray (Rep × List Eff)}
 {K : Value → Heap → Prop} {Qp : List PanicEntry → Heap → Prop}
def wArgs : ByteArray := ⟨#[69, 82, 82, 32, 97, 114, 103, 115]⟩
end
theorem one_arg {α : Type} {A : List α} (h : (1 : Int) ≤ A.length ∧ (A.length : Int) ≤ 1) : ∃ x, A = [x] := by
 match A, h with
 |[], h => simp at h
 |[x], _ => exact ⟨x, rfl⟩
 |x :: y :: l, h => simp at h; omega
theorem two_arg {α : Type} {A : List α} (h : (2 : Int) ≤ A.length ∧ (A.length : Int) ≤ 2) : ∃ x y, A = [x, y] := by
 match A, h with
 |[], h => simp at h
 |[x], h => simp at h
 |[x, y], _ => exact ⟨x, y, rfl⟩
 |x :: y :: z :: l, h => simp at h; omega
def arg1 (f : ByteArray → Except ByteArray (Rep × List Eff)) : List ByteArray → Except ByteArray (Rep × List Eff)
 |[x] => f x
 |_ => .error wArgs
def arg2 (f : ByteArray → ByteArray → Except ByteArray (Rep × List Eff)) : List ByteArray → Except ByteArray (Rep × List Eff)
 |[x, y] => f x y
 |_ => .error wArgs
theorem arg1_bad {f : ByteArray → Except ByteArray (Rep × List Eff)} {A : List ByteArray} (h : ¬ ((1 : Int) ≤ A.length ∧ (A.length : Int) ≤ 1)) : arg1 f A = .error wArgs := by
 match A, h with
 |[], _ => rfl
 |[x], h => exact absurd ⟨by simp, by simp⟩ h
 |x :: y :: l, _ => rfl
theorem arg2_bad {f : ByteArray → ByteArray → Except ByteArray (Rep × List Eff)} {A : List ByteArray} (h : ¬ ((2 : Int) ≤ A.length ∧ (A.length : Int) ≤ 2)) : arg2 f A = .error wArgs := by
 match A, h with
 |[], _ => rfl
 |[x], _ => rfl
 |[x, y], h => exact absurd ⟨by simp, by simp⟩ h
 |x :: y :: z :: l, _ => rfl
end Go.Proofs.YtjnijlnmbjjgpaaGreatDoor
namespace Go.Proofs.YtjnijlnmbjjgpaaGreatDoor
open Go Go.Sx C
section
variable {h0 h : Heap} {ab kb sb mb c : Nat} {now n : Int} {av lv : Value} {A : List ByteArray} {m : List KI} {S : Space} {key s a : ByteArray} {t : Thing} {go : Option Thing}
instance (a b : Int) : Decidable (okSum a b) := by unfold okSum; infer_instance
def zeroS : ByteArray := ⟨#[48]⟩
theorem numOf_in {v : Int} (h : numOf s = some v) : In64 v := by
 obtain ⟨⟨a, b⟩, _⟩ := (Num.num_iff rfl s.data.toList v).1 h
 exact ⟨by omega, by omega⟩
theorem itoa_len {k n : Int} (h : okSum k n) : (Lib.itoa (k + n)).length ≤ 20 := by
 obtain ⟨h0, h1⟩ := h
 unfold Lib.itoa
 split
 ·have := Num.dec_len 18 (k + n).natAbs (by omega)
  simp; omega
 ·have := Num.dec_len 18 (k + n).toNat (by omega)
  omega
theorem mv_go {P : Program} {x : Operand} {d : Nat} {c : SCode} {Q : Post} {σ : Env} {ds : List Deferred} {h : Heap} {v : Value} (he : ev σ x = some v) (hs : swp P c Q (upd σ (some d) v) ds h) :
  swp P (.seq (.ops [⟨some d, none, .mv x⟩]) c) Q σ ds h := by
 simp only [swp, sops, sopr, sop, he]
 exact hs
theorem not_go {P : Program} {x y : Operand} {d e : Nat} {c : SCode} {Q : Post} {σ : Env} {ds : List Deferred} {h : Heap} {v : Bool} (he : ev σ x = some (.bool v)) (hf : ev (upd σ (some d) (.bool v)) y = some (.bool v))
  (hs : swp P c Q (upd (upd σ (some d) (.bool v)) (some e) (.bool !v)) ds h) : swp P (.seq (.ops [⟨some d, none, .mv x⟩, ⟨some e, none, .un .not y⟩]) c) Q σ ds h := by
 simp only [swp, sops, sopr, sop, he, hf]
 exact hs
theorem cnd_go {P : Program} {x : Operand} {a b c : SCode} {Q : Post} {σ : Env} {ds : List Deferred} {h : Heap} {t : Bool} (he : ev σ x = some (.bool t)) (hs : swp P (.seq (bif t then a else b) c) Q σ ds h) : swp P (.seq (.cond x a b) c) Q σ ds h := by
 cases t with
 |true => simp only [swp, he]; exact hs
 |false => simp only [swp, he]; exact hs
theorem ass_go {P : Program} {a b c : SCode} {Q : Post} {σ : Env} {ds : List Deferred} {h : Heap} (hs : swp P (.seq a (.seq b c)) Q σ ds h) : swp P (.seq (.seq a b) c) Q σ ds h := by
 have e : thenQ (swp P b (thenQ (swp P c Q) Q)) (thenQ (swp P c Q) Q) = thenQ (swp P b (thenQ (swp P c Q) Q)) Q := by
  funext x; cases x <;> rfl
 simp only [swp] at hs ⊢
 rw [e]; exact hs
theorem skp_go {P : Program} {c : SCode} {Q : Post} {σ : Env} {ds : List Deferred} {h : Heap} (hs : swp P c Q σ ds h) : swp P (.seq .skip c) Q σ ds h := hs
def TextS (S : Space) : Prop := ∀ p ∈ S, p.2.text.size < 281474976710656
end
end Go.Proofs.YtjnijlnmbjjgpaaGreatDoor
namespace Go.Proofs.YtjnijlnmbjjgpaaGreatDoor
open Go Go.Sx C
section
variable {h0 h : Heap} {ab kb sb mb c : Nat} {now n : Int} {av lv : Value} {A : List ByteArray} {m : List KI} {S : Space} {key s a : ByteArray} {t : Thing} {go : Option Thing} {q : Rep} {E : List Eff}
end
end Go.Proofs.YtjnijlnmbjjgpaaGreatDoor
namespace Go.Proofs.YtjnijlnmbjjgpaaGreatDoor
open Go Go.Sx C
abbrev Res := Except ByteArray (Rep × List Eff)
def okR : Rep := rep 1 0 ⟨#[79, 75]⟩
def nilR : Rep := rep 0 0 noText
def numR (n : Int) : Rep := rep 3 n noText
def wRange : ByteArray := ⟨#[69, 82, 82, 32, 114, 97, 110, 103, 101]⟩
instance memB (k : ByteArray) (l : List ByteArray) : Decidable (k ∈ l) := @List.instDecidableMemOfLawfulBEq _ instBEqOfDecidableEq _ k l
def cntB (k : ByteArray) (l : List ByteArray) : Nat := l.countP fun x => decide (x = k)
theorem cntB_zero {k : ByteArray} {l : List ByteArray} (h : k ∉ l) : cntB k l = 0 := List.countP_eq_zero.2 fun x hx he => h (of_decide_eq_true he ▸ hx)
theorem cntB_pos {k : ByteArray} {l : List ByteArray} (h : k ∈ l) : 0 < cntB k l := List.countP_pos_iff.2 ⟨k, h, decide_eq_true rfl⟩
theorem cntB_le {k : ByteArray} {l : List ByteArray} : cntB k l ≤ l.length := List.countP_le_length
theorem cntB_snoc {pre : List ByteArray} {k k' : ByteArray} : cntB k' (pre ++ [k]) = cntB k' pre + (if k' = k then 1 else 0) := by
 unfold cntB
 rw [List.countP_append, List.countP_singleton]
 by_cases h : k' = k
 ·rw [if_pos (decide_eq_true h.symm), if_pos h]
 ·rw [if_neg (by simp; exact fun e => h e.symm), if_neg h]
section
variable (S : Space) (now : Int)
end
end Go.Proofs.YtjnijlnmbjjgpaaGreatDoor
namespace Go.Proofs.YtjnijlnmbjjgpaaGreatDoor
open Go Go.Sx C
def hashE (key n t : ByteArray) : Eff := ⟨5, key, n, t, 0⟩
def unhashE (key n : ByteArray) : Eff := ⟨6, key, n, noText, 0⟩
def headE (key t : ByteArray) : Eff := ⟨7, key, noText, t, 0⟩
def tailE (key t : ByteArray) : Eff := ⟨8, key, noText, t, 0⟩
def unheadE (key : ByteArray) : Eff := ⟨9, key, noText, noText, 0⟩
def untailE (key : ByteArray) : Eff := ⟨10, key, noText, noText, 0⟩
def atE (key : ByteArray) (i : Int) (t : ByteArray) : Eff := ⟨11, key, noText, t, i⟩
def addE (key n : ByteArray) : Eff := ⟨12, key, n, noText, 0⟩
def removeE (key n : ByteArray) : Eff := ⟨13, key, n, noText, 0⟩
def rankE (key n : ByteArray) (s : Int) : Eff := ⟨14, key, n, noText, s⟩
def unrankE (key n : ByteArray) : Eff := ⟨15, key, n, noText, 0⟩
def listR (l : List ByteArray) : Rep := ⟨5, 0, noText, l.map fun s => (4, 0, s)⟩
def textR (s : ByteArray) : Rep := rep 4 0 s
def small (s : ByteArray) : Bool := decide (s.size ≤ 1048576)
def okK (kd : Int) : Option Thing → Bool
 |none => true
 |some t => decide (t.kind = kd)
def placeN (n : Nat) (at_ : Int) : Option Nat :=
 if at_ < 0 then (if 0 ≤ at_ + n then some (at_ + n).toNat else none) else if at_ < n then some at_.toNat else none
def spanA (n : Nat) (a : Int) : Int := if a < 0 then max 0 (a + n) else a
def spanB (n : Nat) (b : Int) : Int := min (if b < 0 then b + n else b) ((n : Int) - 1)
def spanN (n : Nat) (a b : Int) : Nat × Nat := if n < 1 ∨ spanB n b < spanA n a then (0, 0) else ((spanA n a).toNat, (spanB n b).toNat + 1)
theorem placeN_lt {n i : Nat} {a : Int} (h : placeN n a = some i) : i < n := by
 unfold placeN at h
 split at h
 ·split at h
  ·cases h; omega
  ·cases h
 ·split at h
  ·cases h; omega
  ·cases h
theorem spanN_le (n : Nat) (a b : Int) : (spanN n a b).1 ≤ (spanN n a b).2 ∧ (spanN n a b).2 ≤ n := by
 unfold spanN
 split
 ·exact ⟨Nat.le_refl _, Nat.zero_le _⟩
 ·rename_i h
  have hb : spanB n b ≤ (n : Int) - 1 := by unfold spanB; exact Int.min_le_right _ _
  have ha : 0 ≤ spanA n a := by unfold spanA; split <;> omega
  show (spanA n a).toNat ≤ (spanB n b).toNat + 1 ∧ (spanB n b).toNat + 1 ≤ n
  omega
section
variable (S : Space) (now : Int)
def kindly (k : Int) (key : ByteArray) (f : Thing → Res) : Res := match getS S key now with
 |none => f zeroT
 |some t => if t.kind = k then f t else .error wType
def makes (key : ByteArray) (items : Int) (ok : Bool) (r : Rep) (E : List Eff) : Res :=
 if items ≤ 65536 ∧ key.size ≤ 1048576 ∧ ok = true then .ok (r, dropsS S key now ++ E) else .error wLong
def newL (there : ByteArray → Bool) : List ByteArray → List ByteArray → List ByteArray
 |_, [] => []
 |pre, n :: ns => (if there n = false ∧ n ∉ pre then [n] else []) ++ newL there (pre ++ [n]) ns
def hereL (there : ByteArray → Bool) (ns : List ByteArray) : List ByteArray := newL (fun n => !there n) [] ns
def twos : List ByteArray → List (ByteArray × ByteArray)
 |a :: b :: l => (a, b) :: twos l
 |_ => []
def fieldF (l : List Pair) (n : ByteArray) : Option ByteArray := (l.find? fun p => decide (p.name = n)).map Pair.text
def thereH (l : List Pair) (n : ByteArray) : Bool := (fieldF l n).isSome
def cHset : List ByteArray → Res
 |key :: l => if 2 ≤ l.length ∧ l.length < 65536 ∧ l.length % 2 = 0 then kindly S now 2 key fun t =>
   let n := (newL (thereH t.pairs) [] ((twos l).map Prod.fst)).length
   makes S now key (t.pairs.length + n) (l.all small) (numR n) ((twos l).map fun p => hashE key p.1 p.2) else .error wArgs
 |[] => .error wArgs
def cHget : List ByteArray → Res := arg2 fun key n => kindly S now 2 key fun t => match fieldF t.pairs n with
 |some s => .ok (textR s, [])
 |none => .ok (nilR, [])
def cAway (k : Int) (there : Thing → ByteArray → Bool) (e : ByteArray → ByteArray → Eff) : List ByteArray → Res
 |key :: l => if 1 ≤ l.length ∧ l.length < 65536 then kindly S now k key fun t => .ok (numR (hereL (there t) l).length, (hereL (there t) l).map (e key)) else .error wArgs
 |[] => .error wArgs
def cHdel : List ByteArray → Res := cAway S now 2 (fun t => thereH t.pairs) unhashE
def cHlen : List ByteArray → Res := arg1 fun key => kindly S now 2 key fun t => .ok (numR t.pairs.length, [])
def cHall : List ByteArray → Res := arg1 fun key => kindly S now 2 key fun t => .ok (listR (t.pairs.flatMap fun p => [p.name, p.text]), [])
def arg3 (f : ByteArray → ByteArray → ByteArray → Res) : List ByteArray → Res
 |[a, b, c] => f a b c
 |_ => .error wArgs
def numbered (s : ByteArray) (f : Int → Res) : Res := match numOf s with
 |some n => f n
 |none => .error wNum
def addTo (n by_ : Int) (f : Int → Res) : Res := if okSum n by_ then f (n + by_) else .error wOver
def cHincr : List ByteArray → Res := arg3 fun key n s => numbered s fun by_ => kindly S now 2 key fun t =>
 numbered ((fieldF t.pairs n).getD zeroS) fun m => addTo m by_ fun z =>
  makes S now key (t.pairs.length + (if thereH t.pairs n = true then 0 else 1)) (small n && small ⟨⟨Lib.itoa z⟩⟩) (numR z) [hashE key n ⟨⟨Lib.itoa z⟩⟩]
def cPush (e : ByteArray → ByteArray → Eff) : List ByteArray → Res
 |key :: l => if 1 ≤ l.length ∧ l.length < 65536 then kindly S now 3 key fun t => makes S now key (t.list.length + l.length) (l.all small) (numR (t.list.length + l.length)) (l.map (e key)) else .error wArgs
 |[] => .error wArgs
def cPop (e : ByteArray → Eff) (at_ : Int) : List ByteArray → Res := arg1 fun key => kindly S now 3 key fun t => match placeN t.list.length at_ with
 |some i => .ok (textR (t.list[i]?.getD noText), [e key])
 |none => .ok (nilR, [])
def cLlen : List ByteArray → Res := arg1 fun key => kindly S now 3 key fun t => .ok (numR t.list.length, [])
def cLindex : List ByteArray → Res := arg2 fun key s => numbered s fun n => kindly S now 3 key fun t => match placeN t.list.length n with
 |some i => .ok (textR (t.list[i]?.getD noText), [])
 |none => .ok (nilR, [])
def spanL {α : Type} (l : List α) (a b : Int) : List α := (l.drop (spanN l.length a b).1).take ((spanN l.length a b).2 - (spanN l.length a b).1)
def cLrange : List ByteArray → Res := arg3 fun key s u => numbered s fun a => numbered u fun b => kindly S now 3 key fun t => .ok (listR (spanL t.list a b), [])
def cLset : List ByteArray → Res := arg3 fun key s u => numbered s fun n => kindly S now 3 key fun t => match placeN t.list.length n with
 |some i => makes S now key t.list.length (small u) okR [atE key i u]
 |none => .error wRange
def thereL (l : List ByteArray) (n : ByteArray) : Bool := decide (n ∈ l)
def cSadd : List ByteArray → Res
 |key :: l => if 1 ≤ l.length ∧ l.length < 65536 then kindly S now 4 key fun t =>
   let ns := newL (thereL t.list) [] l
   if ns = [] then .ok (numR 0, []) else makes S now key (t.list.length + ns.length) (ns.all small) (numR ns.length) (ns.map (addE key)) else .error wArgs
 |[] => .error wArgs
def cSrem : List ByteArray → Res := cAway S now 4 (fun t => thereL t.list) removeE
def cSis : List ByteArray → Res := arg2 fun key n => kindly S now 4 key fun t => .ok (numR (if thereL t.list n = true then 1 else 0), [])
def cScard : List ByteArray → Res := arg1 fun key => kindly S now 4 key fun t => .ok (numR t.list.length, [])
def cSmem : List ByteArray → Res := arg1 fun key => kindly S now 4 key fun t => .ok (listR t.list, [])
def interL : List ByteArray → List ByteArray → (List ByteArray → Res) → Res
 |acc, [], f => f acc
 |acc, key :: ks, f => kindly S now 4 key fun t => interL (acc.filter (thereL t.list)) ks f
def cSinter : List ByteArray → Res
 |key :: ks => if ks.length < 65536 then kindly S now 4 key fun t => interL S now t.list ks fun l => .ok (listR l, []) else .error wArgs
 |[] => .error wArgs
def scoreF (l : List Rank) (n : ByteArray) : Option Int := (l.find? fun r => decide (r.name = n)).map Rank.score
def thereR (l : List Rank) (n : ByteArray) : Bool := (scoreF l n).isSome
def scored : List (ByteArray × ByteArray) → Option (List (Int × ByteArray))
 |[] => some []
 |(s, n) :: l => match numOf s, scored l with
  |some z, some r => some ((z, n) :: r)
  |_, _ => none
def cZadd : List ByteArray → Res
 |key :: l => if 2 ≤ l.length ∧ l.length < 65536 ∧ l.length % 2 = 0 then match scored (twos l) with
   |none => .error wNum
   |some r => kindly S now 5 key fun t =>
    let n := (newL (thereR t.ranks) [] (r.map Prod.snd)).length
    makes S now key (t.ranks.length + n) ((r.map Prod.snd).all small) (numR n) (r.map fun p => rankE key p.2 p.1)
   else .error wArgs
 |[] => .error wArgs
def cZrem : List ByteArray → Res := cAway S now 5 (fun t => thereR t.ranks) unrankE
def cZscore : List ByteArray → Res := arg2 fun key n => kindly S now 5 key fun t => match scoreF t.ranks n with
 |some z => .ok (textR ⟨⟨Lib.itoa z⟩⟩, [])
 |none => .ok (nilR, [])
def cZincr : List ByteArray → Res := arg3 fun key s n => numbered s fun by_ => kindly S now 5 key fun t => addTo ((scoreF t.ranks n).getD 0) by_ fun z =>
 makes S now key (t.ranks.length + (if thereR t.ranks n = true then 0 else 1)) (small n) (textR ⟨⟨Lib.itoa z⟩⟩) [rankE key n z]
def cZcard : List ByteArray → Res := arg1 fun key => kindly S now 5 key fun t => .ok (numR t.ranks.length, [])
def cZrank : List ByteArray → Res := arg2 fun key n => kindly S now 5 key fun t => match t.ranks.findIdx? fun r => decide (r.name = n) with
 |some i => .ok (numR i, [])
 |none => .ok (nilR, [])
def cZrange : List ByteArray → Res := arg3 fun key s u => numbered s fun a => numbered u fun b => kindly S now 5 key fun t => .ok (listR ((spanL t.ranks a b).map Rank.name), [])
def cZby : List ByteArray → Res := arg3 fun key s u => numbered s fun a => numbered u fun b => kindly S now 5 key fun t =>
 .ok (listR ((t.ranks.filter fun r => decide (a ≤ r.score) && decide (r.score ≤ b)).map Rank.name), [])
end
end Go.Proofs.YtjnijlnmbjjgpaaGreatDoor
namespace Go.Proofs.YtjnijlnmbjjgpaaGreatDoor
open Go Go.Sx C
def cellsC (t : Thing) (pv lw rv : Value) (is : Bool) (kb : Nat) (now : Int) (key : ByteArray) (av lv : Value) : List Value :=
 [.int .i64 t.kind, .string t.text, pv, lw, rv, .bool t.hasU, .int .i64 t.unt, .bool is, ptr kb, .int .i64 now, .string key, av, lv]
def cE (ab kb : Nat) (now : Int) (av : Value) (key : ByteArray) (t : Thing) (is : Bool) (pv lw rv lv : Value) (L : List Eff) : En :=
 .x (ab :: (vblk lv ++ bl3 pv lw rv)) (fun h => Blk h ab (cellsC t pv lw rv is kb now key av lv) ∧ OL encD 5 h lv L ∧ TH h (cellsT t pv lw rv) t ∧ (∀ b ∈ bl3 pv lw rv, b < h.size) ∧ ab ∉ vblk lv ∧ ab ∉ bl3 pv lw rv ∧ ∀ b ∈ vblk lv, b ∉ bl3 pv lw rv)
  (fun _ _ _ hc hn ⟨h1, h2, h3, h4, h5, h6, h7⟩ => ⟨h1.chg hc (hn _ (by simp)), h2.chg hc (fun b hb => hn _ (by simp [hb])), th_off h3 hc (fun b hb => hn _ (by simp [hb])), fun b hb => Nat.lt_of_lt_of_le (h4 b hb) hc.size, h5, h6, h7⟩)
  (fun _ ⟨h1, h2, _, h4, _⟩ b hb => by
   rcases List.mem_cons.1 hb with rfl | hb
   ·exact h1.lt
   ·rcases List.mem_append.1 hb with hb | hb
    ·exact OL.lt h2 b hb
    ·exact h4 b hb)
section
variable {h h1 h' : Heap} {ab kb i : Nat} {now : Int} {av lv pv lw rv : Value} {key key2 : ByteArray} {t : Thing} {is : Bool} {L F : List Eff} {M : List En} {T : List Nat}
theorem _root_.Go.Sx.St.ldc {o : Nat} {v : Value} {K : Value → Prop} (w : St T h1 h M) (i : Nat) (hi : M[i]? = some (cE ab kb now av key t is pv lw rv lv L)) (hv : (cellsC t pv lw rv is kb now key av lv)[o]? = some v) (k : K v) : ∃ v, cell h ab o = some v ∧ K v := ⟨v, cell_blk (w.get i hi).1 hv, k⟩
theorem _root_.Go.Sx.St.cform (w : St T h1 h M) (i : Nat) (hi : M[i]? = some (cE ab kb now av key t is pv lw rv lv L)) : ∃ a c, lv = .slice a L.length c := by
 obtain ⟨a, c, e, _⟩ := (show OL encD 5 h lv L from (w.get i hi).2.1).sl.form
 exact ⟨a, c, e⟩
theorem _root_.Go.Sx.St.ckey {K : Heap → Prop} (w : St T h1 h M) (i : Nat) (hi : M[i]? = some (cE ab kb now av key t is pv lw rv lv L)) (k : ∀ h', St T h1 h' (M.set i (cE ab kb now av key2 t is pv lw rv lv L)) → K h') :
  ∃ l, Blk h ab l ∧ 10 + 1 ≤ l.length ∧ [Value.string key2].length = 1 ∧ (∀ u ∈ [Value.string key2], u.oneCell' = true) ∧ ∀ h', Put h h' ab (splice l 10 [.string key2]) → K h' := by
 obtain ⟨hB, hO, hT, hb, n1, n2, n3⟩ := w.get i hi
 refine ⟨_, hB, by simp [cellsC], rfl, ones1 rfl, fun h' p => k h' ?_⟩
 refine w.set i hi p.chg (fun b hb => .inl (by simp at hb; simp [cE, En.fp, hb])) ⟨p.blk, hO.chg p.chg (fun b hb => by simp; rintro rfl; exact n1 hb), th_off hT p.chg (fun b hb => by simp; rintro rfl; exact n2 hb), fun b h9 => Nat.lt_of_lt_of_le (hb b h9) p.chg.size, n1, n2, n3⟩ (fun b hb => .inl hb)
theorem _root_.Go.Sx.St.capp {a a' : Option Addr} {n c m c2 : Nat} {z : List Value} {K : Value → Heap → Prop} (w : St T h1 h M) (i : Nat) (hi : M[i]? = some (cE ab kb now av key t is pv lw rv (.slice a n c) L)) (hz : z.length = 5) (hsrc : SL encD h (.slice a' m c2) F) (hb : ((L.length + F.length) * 2 + 768) * 64 ≤ 281474976710656)
  (k : ∀ a3 c3 h', (∀ {K' : Heap → Prop}, (∀ h'', St T h1 h'' (M.set i (cE ab kb now av key t is pv lw rv (.slice a3 (L ++ F).length c3) (L ++ F))) → K' h'') →
   ∃ l, Blk h' ab l ∧ 12 + 1 ≤ l.length ∧ [Value.slice a3 (L ++ F).length c3].length = 1 ∧ (∀ u ∈ [Value.slice a3 (L ++ F).length c3], u.oneCell' = true) ∧ ∀ h'', Put h' h'' ab (splice l 12 [.slice a3 (L ++ F).length c3]) → K' h'') → K (.slice a3 (L ++ F).length c3) h') : appP h K 5 64 z a n c a' m := by
 obtain ⟨hB, hO, hT, hlt3, n1, n2, n3⟩ := w.get i hi
 have hlt := hB.lt
 refine app_own encD_len encD_one hz hO hsrc hb fun v' h' ho hc hbv => ?_
 have hxn : ab ∉ vblk v' := fun hm => by
  rcases hbv ab hm with h3 | h3
  ·exact n1 h3
  ·omega
 have hyn : ∀ b ∈ vblk v', b ∉ bl3 pv lw rv := fun b hb hm => by
  rcases hbv b hb with h3 | h3
  ·exact n3 b h3 hm
  ·have := hlt3 b hm; omega
 have hB1 := hB.chg hc n1
 have hT1 := th_off hT hc (fun b hb hm => n3 b hm hb)
 obtain ⟨a3, c3, rfl, _⟩ := ho.sl.form
 refine k a3 c3 h' fun {K'} hK => ?_
 refine ⟨_, hB1, by simp [cellsC], rfl, ones1 rfl, fun h'' p => hK h'' ?_⟩
 have ct : Chg (ab :: ablk a) h h'' := (hc.mono (fun b hb => List.mem_cons_of_mem _ hb)).trans p.chg (fun _ hk => hk) (fun b hb _ => by simp at hb; simp [hb])
 refine w.set i hi ct (fun b hb => .inl ?_) ⟨p.blk, ho.chg p.chg (fun b hb => by simp; rintro rfl; exact hxn hb), th_off hT1 p.chg (fun b hb => by simp; rintro rfl; exact n2 hb), fun b h9 => Nat.lt_of_lt_of_le (hlt3 b h9) ct.size, hxn, n2, hyn⟩ (fun b hb => ?_)
 ·rcases List.mem_cons.1 hb with rfl | hb
  ·exact List.mem_cons_self ..
  ·exact List.mem_cons_of_mem _ (List.mem_append_left _ hb)
 ·rcases List.mem_cons.1 hb with rfl | hb
  ·exact .inl (List.mem_cons_self ..)
  ·rcases List.mem_append.1 hb with hb | hb
   ·rcases hbv b hb with h3 | h3
    ·exact .inl (List.mem_cons_of_mem _ (List.mem_append_left _ h3))
    ·exact .inr h3
   ·exact .inl (List.mem_cons_of_mem _ (List.mem_append_right _ hb))
theorem _root_.Go.Sx.St.cthing {t2 : Thing} {p2 w2 r2 : Value} {K : Heap → Prop} {j : Nat} (w : St T h1 h M) (i : Nat) (hi : M[i]? = some (cE ab kb now av key t is pv lw rv lv L)) (hj : M[j]? = some (thE t2 p2 w2 r2)) (hij : j ≠ i)
  (k : ∀ h', St T h1 h' ((M.set j En.nil).set i (cE ab kb now av key t2 is p2 w2 r2 lv L)) → K h') :
  ∃ l, Blk h ab l ∧ 0 + 7 ≤ l.length ∧ (cellsT t2 p2 w2 r2).length = 7 ∧ (∀ u ∈ cellsT t2 p2 w2 r2, u.oneCell' = true) ∧ ∀ h', Put h h' ab (splice l 0 (cellsT t2 p2 w2 r2)) → K h' := by
 obtain ⟨hB, hO, hT, hlt3, n1, n2, n3⟩ := w.get i hi
 obtain ⟨hT2, hlt2⟩ := w.get j hj
 refine ⟨_, hB, by simp [cellsC], rfl, thing_one hT2, fun h' p => k h' ?_⟩
 have m1 : ∀ b ∈ bl3 p2 w2 r2, b ∉ (cE ab kb now av key t is pv lw rv lv L).fp := fun b hb => w.apart j i _ _ hj hi hij b hb
 have n2' : ab ∉ bl3 p2 w2 r2 := fun hm => m1 ab hm (by simp [cE, En.fp])
 have n3' : ∀ b ∈ vblk lv, b ∉ bl3 p2 w2 r2 := fun b hb hm => m1 b hm (by simp [cE, En.fp, hb])
 have hz := w.size
 have hil : i < M.length := (List.getElem?_eq_some_iff.1 hi).1
 have hjl : j < M.length := (List.getElem?_eq_some_iff.1 hj).1
 have hfi := (w.ents i _ hi).2
 have hfj := (w.ents j _ hj).2
 have he : (cE ab kb now av key t2 is p2 w2 r2 lv L).at h' := ⟨p.blk, hO.chg p.chg (fun b hb => by simp; rintro rfl; exact n1 hb), th_off hT2 p.chg (fun b hb => by simp; rintro rfl; exact n2' hb), fun b h9 => Nat.lt_of_lt_of_le (hlt2 b h9) p.chg.size, n1, n2', n3'⟩
 have hsub : ∀ b ∈ (cE ab kb now av key t2 is p2 w2 r2 lv L).fp, b ∈ (cE ab kb now av key t is pv lw rv lv L).fp ∨ b ∈ (thE t2 p2 w2 r2).fp := fun b hb => by
  rcases List.mem_cons.1 hb with rfl | hb
  ·exact .inl (List.mem_cons_self ..)
  ·rcases List.mem_append.1 hb with hb | hb
   ·exact .inl (List.mem_cons_of_mem _ (List.mem_append_left _ hb))
   ·exact .inr hb
 have hab : ab ∈ (cE ab kb now av key t is pv lw rv lv L).fp := List.mem_cons_self ..
 have get3 : ∀ {x : Nat} {e : En}, ((M.set j En.nil).set i (cE ab kb now av key t2 is p2 w2 r2 lv L))[x]? = some e → (x = i ∧ e = cE ab kb now av key t2 is p2 w2 r2 lv L) ∨ (x = j ∧ x ≠ i ∧ e = En.nil) ∨ (x ≠ i ∧ x ≠ j ∧ M[x]? = some e) := fun {x e} hx => by
  by_cases h1 : i = x
  ·subst h1
   rw [List.getElem?_set_self (by rw [List.length_set]; exact hil)] at hx
   cases hx
   exact .inl ⟨rfl, rfl⟩
  ·rw [List.getElem?_set_ne h1] at hx
   by_cases h2 : j = x
   ·subst h2
    rw [List.getElem?_set_self hjl] at hx
    cases hx
    exact .inr (.inl ⟨rfl, fun e => h1 e.symm, rfl⟩)
   ·rw [List.getElem?_set_ne h2] at hx
    exact .inr (.inr ⟨fun e => h1 e.symm, fun e => h2 e.symm, hx⟩)
 refine ⟨w.chg.trans p.chg (fun _ hk => hk) (fun b hb hlt => ?_), fun x e hx => ?_, fun x y e f hx hy hn b h1 h2 => ?_⟩
 ·simp at hb
  subst hb
  rcases hfi b hab with h9 | h9
  ·exact h9
  ·omega
 ·rcases get3 hx with ⟨rfl, rfl⟩ | ⟨rfl, _, rfl⟩ | ⟨h1, h2, hm⟩
  ·refine ⟨he, fun b hb => ?_⟩
   rcases hsub b hb with h9 | h9
   ·exact hfi b h9
   ·exact hfj b h9
  ·exact ⟨trivial, fun b hb => (nomatch (show b ∈ ([] : List Nat) from hb))⟩
  ·refine ⟨En.chg (w.get x hm) p.chg (fun b hb => ?_), (w.ents x e hm).2⟩
   simp
   rintro rfl
   exact w.apart i x _ e hi hm (fun e => h1 e.symm) b hab hb
 ·rcases get3 hx with ⟨rfl, rfl⟩ | ⟨rfl, _, rfl⟩ | ⟨x1, x2, hm⟩
  ·rcases get3 hy with ⟨rfl, rfl⟩ | ⟨rfl, _, rfl⟩ | ⟨y1, y2, hm2⟩
   ·exact hn rfl
   ·exact (nomatch (show b ∈ ([] : List Nat) from h2))
   ·rcases hsub b h1 with h9 | h9
    ·exact w.apart x y _ f hi hm2 hn b h9 h2
    ·exact w.apart j y _ f hj hm2 (fun e => y2 e.symm) b h9 h2
  ·exact (nomatch (show b ∈ ([] : List Nat) from h1))
  ·rcases get3 hy with ⟨rfl, rfl⟩ | ⟨rfl, _, rfl⟩ | ⟨y1, y2, hm2⟩
   ·rcases hsub b h2 with h9 | h9
    ·exact w.apart x y e _ hm hi hn b h1 h9
    ·exact w.apart x j e _ hm hj x2 b h1 h9
   ·exact (nomatch (show b ∈ ([] : List Nat) from h2))
   ·exact w.apart x y e f hm hm2 hn b h1 h2
end
end Go.Proofs.YtjnijlnmbjjgpaaGreatDoor
set_option maxRecDepth 100000
namespace Go.Proofs.YtjnijlnmbjjgpaaGreatDoor.C
open Go Go.Sx Go.Sx.S
end Go.Proofs.YtjnijlnmbjjgpaaGreatDoor.C
set_option maxRecDepth 100000
namespace Go.Proofs.YtjnijlnmbjjgpaaGreatDoor.C
open Go Go.Sx Go.Sx.S
end Go.Proofs.YtjnijlnmbjjgpaaGreatDoor.C
set_option maxRecDepth 100000
namespace Go.Proofs.YtjnijlnmbjjgpaaGreatDoor.C
open Go Go.Sx Go.Sx.S
end Go.Proofs.YtjnijlnmbjjgpaaGreatDoor.C
set_option maxRecDepth 100000
namespace Go.Proofs.YtjnijlnmbjjgpaaGreatDoor.C
open Go Go.Sx Go.Sx.S
def f40r0 : LS := [o 7 (.eqn 4 false (t 5))]
def f40r1 : LS := [o 2 (.mv (t 5))]
def f40r2 : LS := [o 8 (.tas 92 (.agg #[(.string ⟨#[]⟩)]) true (t 5)),o 9 (.ext (t 8) 1),o 10 (.ext (t 8) 0)]
def f40r3 : LS := [o 3 (.new [(.string ⟨#[]⟩)]),
 q (.st 1 (t 3) (t 10))]
def f40r4 : LS := [o 11 (.fa 0 (t 3)),o 12 (.ld1 (t 11)),o 13 (.call 41 [(t 12)]),
 q (.st 4 (t 0) (t 13)),
 q (.st 1 (t 1) (.const (.slice none 0 0)))]
def f40r5 : LS := [o 4 (.mv (t 5))]
def f40r6 : LS := [o 6 (.mv (t 4)),
 q (.pan (t 6))]
def f40 : SCode := (.seq (.rcv (some 5)) (.block 0 (.seq (.ops f40r0) (.cond (t 7) (.ops f40r1) (.seq (.ops f40r2) (.cond (t 9) (.seq (.ops f40r3) (.ops f40r4)) (.seq (.ops f40r5) (.ops f40r6))))))))
def f81r0 : LS := [o 1 (.box (t 0)),o 2 (.new [(.int .i64 0), (.int .i64 0), (.string ⟨#[]⟩), (.slice none 0 0)])]
def f81r1 : LS := [o 6 (.ld1 (t 1)),o 7 (.call 149 [(t 6), (i 3), (i 65536)])]
def f81r2 : LS := [o 8 (.ld1 (t 1)),o 9 (.nilck (t 8)),o 10 (.fa 11 (t 9)),o 11 (.ld1 (t 10)),o 12 (.len (t 11)),o 13 (.rem (t 12) (i 2)),o 14 (.cmp .eql (t 13) (i 1)),o 15 (.call 150 [(t 14), (.const (.string ⟨#[69, 82, 82, 32, 97, 114, 103, 115]⟩))])]
def f81r3 : LS := [o 16 (.ld1 (t 1)),o 17 (.call 151 [(t 16), (i 2)])]
def f81r4 : LS := [o 3 (.mv (i 0))]
def f81r5 : LS := [o 18 (.fn 153 [] [(t 1)]),o 19 (.call 152 [(t 18)]),o 4 (.mv (t 19))]
def f81r6 : LS := [o 5 (.mv (i 1))]
def f81r7 : LS := [o 20 (.mv (t 5)),o 21 (.ld1 (t 1)),o 22 (.nilck (t 21)),o 23 (.fa 11 (t 22)),o 24 (.ld1 (t 23)),o 25 (.len (t 24)),o 26 (.cmp .lss (t 20) (t 25))]
def f81r8 : LS := [o 29 (.mv (t 4)),o 30 (.ld1 (t 1)),o 31 (.nilck (t 30)),o 32 (.fa 11 (t 31)),o 33 (.ld1 (t 32)),o 34 (.mv (t 5)),o 35 (.ixs 1 (t 33) (t 34)),o 36 (.ld1 (t 35)),o 37 (.callv (t 29) [(t 36)])]
def f81r9 : LS := [o 38 (.mv (t 3)),o 39 (.ar .add (t 38) (i 1)),o 3 (.mv (t 39))]
def f81r10 : LS := [o 40 (.ld1 (t 1)),o 41 (.ld1 (t 1)),o 42 (.nilck (t 41)),o 43 (.fa 11 (t 42)),o 44 (.ld1 (t 43)),o 45 (.mv (t 5)),o 46 (.ixs 1 (t 44) (t 45)),o 47 (.ld1 (t 46)),o 48 (.ld1 (t 1)),o 49 (.nilck (t 48)),o 50 (.fa 11 (t 49)),o 51 (.ld1 (t 50)),o 52 (.mv (t 5)),o 53 (.ar .add (t 52) (i 1)),o 54 (.ixs 1 (t 51) (t 53)),o 55 (.ld1 (t 54)),o 56 (.build [(.int .i64 0), (.string ⟨#[]⟩), (.string ⟨#[]⟩), (.string ⟨#[]⟩), (.int .i64 0)] [(0, 1), (2, 1), (3, 1)] [(i 5), (t 47), (t 55)]),o 57 (.ld1 (t 1)),o 58 (.nilck (t 57)),o 59 (.fa 0 (t 58)),o 60 (.fa 2 (t 59)),o 61 (.ld1 (t 60)),o 62 (.len (t 61)),o 63 (.mv (t 3)),o 64 (.ar .add (t 62) (t 63)),o 65 (.call 155 [(t 40), (t 56), (t 64)])]
def f81r11 : LS := [o 27 (.mv (t 5)),o 28 (.ar .add (t 27) (i 2)),o 5 (.mv (t 28))]
def f81l12 : SCode := (.seq (.seq (.ops f81r7) (.cond (t 26) .skip (.exit 0))) (.seq (.block 1 (.seq (.seq (.ops f81r8) (.cond (t 37) (.ops f81r9) .skip)) (.ops f81r10))) (.ops f81r11)))
def f81r13 : LS := [o 66 (.mv (t 3)),o 67 (.call 156 [(t 66)]),
 q (.st 4 (t 2) (t 67))]
def f81 : SCode := (.seq (.ops f81r0) (.seq (.ops f81r1) (.seq (.ops f81r2) (.seq (.ops f81r3) (.seq (.ops f81r4) (.seq (.ops f81r5) (.seq (.seq (.ops f81r6) (.block 0 (.loop f81l12))) (.seq (.ops f81r13) .ret))))))))
theorem f81_calls : Sound Tryz.prog 81 68 f81 [.cn 2 4] := sound_of mixed Tryz.func81 rfl (by kernel_rfl) (by kernel_rfl) (by kernel_rfl)
def f82r0 : LS := [o 2 (.new [(.int .i64 0), (.int .i64 0), (.string ⟨#[]⟩), (.slice none 0 0)])]
def f82r1 : LS := [o 5 (.mv (t 0)),o 6 (.call 157 [(t 5), (i 2), (i 2), (i 2)])]
def f82r2 : LS := [o 8 (.mv (t 0)),o 9 (.mv (t 0)),o 10 (.nilck (t 9)),o 11 (.fa 11 (t 10)),o 12 (.ld1 (t 11)),o 13 (.ixs 1 (t 12) (i 1)),o 14 (.ld1 (t 13)),o 15 (.call 154 [(t 8), (t 14)]),o 7 (.mv (t 15)),o 16 (.ext (t 7) 0),o 17 (.ext (t 7) 1),o 3 (.mv (t 16)),o 4 (.mv (t 17))]
def f82r3 : LS := [o 18 (.mv (t 4)),o 19 (.un .not (t 18))]
def f82r4 : LS := [o 20 (.build [(.int .i64 0), (.int .i64 0), (.string ⟨#[]⟩), (.slice none 0 0)] [] []),
 q (.st 4 (t 2) (t 20))]
def f82r5 : LS := [o 21 (.mv (t 3)),o 22 (.call 158 [(t 21)]),
 q (.st 4 (t 2) (t 22))]
def f82 : SCode := (.seq (.ops f82r0) (.seq (.ops f82r1) (.seq (.ops f82r2) (.seq (.seq (.ops f82r3) (.cond (t 19) (.seq (.ops f82r4) .ret) .skip)) (.seq (.ops f82r5) .ret)))))
theorem f82_calls : Sound Tryz.prog 82 23 f82 [.cn 2 4] := sound_of mixed Tryz.func82 rfl (by kernel_rfl) (by kernel_rfl) (by kernel_rfl)
def f83r0 : LS := [o 1 (.box (t 0)),o 2 (.new [(.int .i64 0), (.int .i64 0), (.string ⟨#[]⟩), (.slice none 0 0)])]
def f83r1 : LS := [o 3 (.ld1 (t 1)),o 4 (.call 157 [(t 3), (i 2), (i 2), (i 65536)])]
def f83r2 : LS := [o 5 (.ld1 (t 1)),o 6 (.fn 160 [] [(t 1)]),o 7 (.call 159 [(t 5), (i 6), (t 6)]),
 q (.st 4 (t 2) (t 7))]
def f83 : SCode := (.seq (.ops f83r0) (.seq (.ops f83r1) (.seq (.ops f83r2) .ret)))
theorem f83_calls : Sound Tryz.prog 83 8 f83 [.cn 2 4] := sound_of mixed Tryz.func83 rfl (by kernel_rfl) (by kernel_rfl) (by kernel_rfl)
def f84r0 : LS := [o 2 (.new [(.int .i64 0), (.int .i64 0), (.string ⟨#[]⟩), (.slice none 0 0)])]
def f84r1 : LS := [o 3 (.mv (t 0)),o 4 (.call 157 [(t 3), (i 2), (i 1), (i 1)])]
def f84r2 : LS := [o 5 (.mv (t 0)),o 6 (.nilck (t 5)),o 7 (.fa 0 (t 6)),o 8 (.fa 2 (t 7)),o 9 (.ld1 (t 8)),o 10 (.len (t 9)),o 11 (.call 156 [(t 10)]),
 q (.st 4 (t 2) (t 11))]
def f84 : SCode := (.seq (.ops f84r0) (.seq (.ops f84r1) (.seq (.ops f84r2) .ret)))
theorem f84_calls : Sound Tryz.prog 84 12 f84 [.cn 2 4] := sound_of mixed Tryz.func84 rfl (by kernel_rfl) (by kernel_rfl) (by kernel_rfl)
def f85r0 : LS := [o 2 (.new [(.int .i64 0), (.int .i64 0), (.string ⟨#[]⟩), (.slice none 0 0)])]
def f85r1 : LS := [o 3 (.mv (t 0)),o 4 (.call 157 [(t 3), (i 2), (i 1), (i 1)])]
def f85r2 : LS := [o 5 (.mv (t 0)),o 6 (.nilck (t 5)),o 7 (.fa 0 (t 6)),o 8 (.fa 2 (t 7)),o 9 (.ld1 (t 8)),o 10 (.call 161 [(t 9), (u 162)]),
 q (.st 4 (t 2) (t 10))]
def f85 : SCode := (.seq (.ops f85r0) (.seq (.ops f85r1) (.seq (.ops f85r2) .ret)))
theorem f85_calls : Sound Tryz.prog 85 11 f85 [.cn 2 4] := sound_of mixed Tryz.func85 rfl (by kernel_rfl) (by kernel_rfl) (by kernel_rfl)
def f86r0 : LS := [o 2 (.new [(.int .i64 0), (.int .i64 0), (.string ⟨#[]⟩), (.slice none 0 0)])]
def f86r1 : LS := [o 9 (.mv (t 0)),o 10 (.call 149 [(t 9), (i 3), (i 3)])]
def f86r2 : LS := [o 11 (.mv (t 0)),o 12 (.call 163 [(t 11), (i 2)]),o 3 (.mv (t 12))]
def f86r3 : LS := [o 13 (.mv (t 0)),o 14 (.call 151 [(t 13), (i 2)])]
def f86r4 : LS := [o 16 (.mv (t 0)),o 17 (.mv (t 0)),o 18 (.nilck (t 17)),o 19 (.fa 11 (t 18)),o 20 (.ld1 (t 19)),o 21 (.ixs 1 (t 20) (i 1)),o 22 (.ld1 (t 21)),o 23 (.call 154 [(t 16), (t 22)]),o 15 (.mv (t 23)),o 24 (.ext (t 15) 0),o 25 (.ext (t 15) 1),o 4 (.mv (t 24)),o 5 (.mv (t 25))]
def f86r5 : LS := [o 26 (.mv (t 5)),o 27 (.un .not (t 26))]
def f86r6 : LS := [o 4 (.mv (.const (.string ⟨#[48]⟩)))]
def f86r7 : LS := [o 29 (.mv (t 4)),o 30 (.call 164 [(t 29)]),o 28 (.mv (t 30)),o 31 (.ext (t 28) 0),o 32 (.ext (t 28) 1),o 6 (.mv (t 31)),o 7 (.mv (t 32))]
def f86r8 : LS := [o 33 (.mv (t 7)),o 34 (.call 150 [(t 33), (.const (.string ⟨#[69, 82, 82, 32, 110, 117, 109, 98, 101, 114]⟩))])]
def f86r9 : LS := [o 35 (.mv (t 6)),o 36 (.mv (t 3)),o 37 (.call 165 [(t 35), (t 36)]),o 6 (.mv (t 37))]
def f86r10 : LS := [o 38 (.mv (t 0)),o 39 (.nilck (t 38)),o 40 (.fa 0 (t 39)),o 41 (.fa 2 (t 40)),o 42 (.ld1 (t 41)),o 43 (.len (t 42)),o 8 (.mv (t 43))]
def f86r11 : LS := [o 44 (.mv (t 5)),o 45 (.un .not (t 44))]
def f86r12 : LS := [o 46 (.mv (t 8)),o 47 (.ar .add (t 46) (i 1)),o 8 (.mv (t 47))]
def f86r13 : LS := [o 48 (.mv (t 0)),o 49 (.mv (t 0)),o 50 (.nilck (t 49)),o 51 (.fa 11 (t 50)),o 52 (.ld1 (t 51)),o 53 (.ixs 1 (t 52) (i 1)),o 54 (.ld1 (t 53)),o 55 (.mv (t 6)),o 58 (.mv (t 8)),o 56 (.callq 34 [(t 55), (i 10)]),o 57 (.build [(.int .i64 0), (.string ⟨#[]⟩), (.string ⟨#[]⟩), (.string ⟨#[]⟩), (.int .i64 0)] [(0, 1), (2, 1), (3, 1)] [(i 5), (t 54), (t 56)]),o 59 (.call 155 [(t 48), (t 57), (t 58)])]
def f86r14 : LS := [o 60 (.mv (t 6)),o 61 (.call 156 [(t 60)]),
 q (.st 4 (t 2) (t 61))]
def f86 : SCode := (.seq (.ops f86r0) (.seq (.ops f86r1) (.seq (.ops f86r2) (.seq (.ops f86r3) (.seq (.ops f86r4) (.seq (.seq (.ops f86r5) (.cond (t 27) (.ops f86r6) .skip)) (.seq (.ops f86r7) (.seq (.ops f86r8) (.seq (.ops f86r9) (.seq (.ops f86r10) (.seq (.seq (.ops f86r11) (.cond (t 45) (.ops f86r12) .skip)) (.seq (.ops f86r13) (.seq (.ops f86r14) .ret)))))))))))))
theorem f86_calls : Sound Tryz.prog 86 62 f86 [.cn 2 4] := sound_of mixed Tryz.func86 rfl (by kernel_rfl) (by kernel_rfl) (by kernel_rfl)
def f87r0 : LS := [o 2 (.new [(.int .i64 0), (.int .i64 0), (.string ⟨#[]⟩), (.slice none 0 0)])]
def f87r1 : LS := [o 3 (.mv (t 0)),o 4 (.call 166 [(t 3), (i 7)]),
 q (.st 4 (t 2) (t 4))]
def f87 : SCode := (.seq (.ops f87r0) (.seq (.ops f87r1) .ret))
theorem f87_calls : Sound Tryz.prog 87 5 f87 [.cn 2 4] := sound_of mixed Tryz.func87 rfl (by kernel_rfl) (by kernel_rfl) (by kernel_rfl)
def f88r0 : LS := [o 2 (.new [(.int .i64 0), (.int .i64 0), (.string ⟨#[]⟩), (.slice none 0 0)])]
def f88r1 : LS := [o 3 (.mv (t 0)),o 4 (.call 166 [(t 3), (i 8)]),
 q (.st 4 (t 2) (t 4))]
def f88 : SCode := (.seq (.ops f88r0) (.seq (.ops f88r1) .ret))
theorem f88_calls : Sound Tryz.prog 88 5 f88 [.cn 2 4] := sound_of mixed Tryz.func88 rfl (by kernel_rfl) (by kernel_rfl) (by kernel_rfl)
def f89r0 : LS := [o 2 (.new [(.int .i64 0), (.int .i64 0), (.string ⟨#[]⟩), (.slice none 0 0)])]
def f89r1 : LS := [o 3 (.mv (t 0)),o 4 (.call 167 [(t 3), (i 9), (i 0)]),
 q (.st 4 (t 2) (t 4))]
def f89 : SCode := (.seq (.ops f89r0) (.seq (.ops f89r1) .ret))
theorem f89_calls : Sound Tryz.prog 89 5 f89 [.cn 2 4] := sound_of mixed Tryz.func89 rfl (by kernel_rfl) (by kernel_rfl) (by kernel_rfl)
def f90r0 : LS := [o 2 (.new [(.int .i64 0), (.int .i64 0), (.string ⟨#[]⟩), (.slice none 0 0)])]
def f90r1 : LS := [o 3 (.mv (t 0)),o 4 (.call 167 [(t 3), (i 10), (i (-1))]),
 q (.st 4 (t 2) (t 4))]
def f90 : SCode := (.seq (.ops f90r0) (.seq (.ops f90r1) .ret))
theorem f90_calls : Sound Tryz.prog 90 5 f90 [.cn 2 4] := sound_of mixed Tryz.func90 rfl (by kernel_rfl) (by kernel_rfl) (by kernel_rfl)
def f91r0 : LS := [o 2 (.new [(.int .i64 0), (.int .i64 0), (.string ⟨#[]⟩), (.slice none 0 0)])]
def f91r1 : LS := [o 3 (.mv (t 0)),o 4 (.call 157 [(t 3), (i 3), (i 1), (i 1)])]
def f91r2 : LS := [o 5 (.mv (t 0)),o 6 (.nilck (t 5)),o 7 (.fa 0 (t 6)),o 8 (.fa 3 (t 7)),o 9 (.ld1 (t 8)),o 10 (.len (t 9)),o 11 (.call 156 [(t 10)]),
 q (.st 4 (t 2) (t 11))]
def f91 : SCode := (.seq (.ops f91r0) (.seq (.ops f91r1) (.seq (.ops f91r2) .ret)))
theorem f91_calls : Sound Tryz.prog 91 12 f91 [.cn 2 4] := sound_of mixed Tryz.func91 rfl (by kernel_rfl) (by kernel_rfl) (by kernel_rfl)
def f92r0 : LS := [o 2 (.new [(.int .i64 0), (.int .i64 0), (.string ⟨#[]⟩), (.slice none 0 0)])]
def f92r1 : LS := [o 6 (.mv (t 0)),o 7 (.call 149 [(t 6), (i 2), (i 2)])]
def f92r2 : LS := [o 8 (.mv (t 0)),o 9 (.call 163 [(t 8), (i 1)]),o 3 (.mv (t 9))]
def f92r3 : LS := [o 10 (.mv (t 0)),o 11 (.call 151 [(t 10), (i 3)])]
def f92r4 : LS := [o 13 (.mv (t 0)),o 14 (.nilck (t 13)),o 15 (.fa 0 (t 14)),o 16 (.fa 3 (t 15)),o 17 (.ld1 (t 16)),o 18 (.len (t 17)),o 19 (.mv (t 3)),o 20 (.call 168 [(t 18), (t 19)]),o 12 (.mv (t 20)),o 21 (.ext (t 12) 0),o 22 (.ext (t 12) 1),o 4 (.mv (t 21)),o 5 (.mv (t 22))]
def f92r5 : LS := [o 23 (.mv (t 5)),o 24 (.un .not (t 23))]
def f92r6 : LS := [o 25 (.build [(.int .i64 0), (.int .i64 0), (.string ⟨#[]⟩), (.slice none 0 0)] [] []),
 q (.st 4 (t 2) (t 25))]
def f92r7 : LS := [o 26 (.mv (t 0)),o 27 (.nilck (t 26)),o 28 (.fa 0 (t 27)),o 29 (.fa 3 (t 28)),o 30 (.ld1 (t 29)),o 31 (.mv (t 4)),o 32 (.ixs 1 (t 30) (t 31)),o 33 (.ld1 (t 32)),o 34 (.call 158 [(t 33)]),
 q (.st 4 (t 2) (t 34))]
def f92 : SCode := (.seq (.ops f92r0) (.seq (.ops f92r1) (.seq (.ops f92r2) (.seq (.ops f92r3) (.seq (.ops f92r4) (.seq (.seq (.ops f92r5) (.cond (t 24) (.seq (.ops f92r6) .ret) .skip)) (.seq (.ops f92r7) .ret)))))))
theorem f92_calls : Sound Tryz.prog 92 35 f92 [.cn 2 4] := sound_of mixed Tryz.func92 rfl (by kernel_rfl) (by kernel_rfl) (by kernel_rfl)
def f93r0 : LS := [o 2 (.new [(.int .i64 0), (.int .i64 0), (.string ⟨#[]⟩), (.slice none 0 0)])]
def f93r1 : LS := [o 7 (.mv (t 0)),o 8 (.call 149 [(t 7), (i 3), (i 3)])]
def f93r2 : LS := [o 9 (.mv (t 0)),o 10 (.call 163 [(t 9), (i 1)]),o 11 (.mv (t 0)),o 12 (.call 163 [(t 11), (i 2)]),o 3 (.mv (t 10)),o 4 (.mv (t 12))]
def f93r3 : LS := [o 13 (.mv (t 0)),o 14 (.call 151 [(t 13), (i 3)])]
def f93r4 : LS := [o 16 (.mv (t 0)),o 17 (.nilck (t 16)),o 18 (.fa 0 (t 17)),o 19 (.fa 3 (t 18)),o 20 (.ld1 (t 19)),o 21 (.len (t 20)),o 22 (.mv (t 3)),o 23 (.mv (t 4)),o 24 (.call 169 [(t 21), (t 22), (t 23)]),o 15 (.mv (t 24)),o 25 (.ext (t 15) 0),o 26 (.ext (t 15) 1),o 5 (.mv (t 25)),o 6 (.mv (t 26))]
def f93r5 : LS := [o 27 (.mv (t 0)),o 28 (.nilck (t 27)),o 29 (.fa 0 (t 28)),o 30 (.fa 3 (t 29)),o 31 (.ld1 (t 30)),o 32 (.mv (t 5)),o 33 (.mv (t 6)),o 34 (.slc 1 (t 31) (some (t 32)) (some (t 33))),o 35 (.call 170 [(t 34), (u 171)]),
 q (.st 4 (t 2) (t 35))]
def f93 : SCode := (.seq (.ops f93r0) (.seq (.ops f93r1) (.seq (.ops f93r2) (.seq (.ops f93r3) (.seq (.ops f93r4) (.seq (.ops f93r5) .ret))))))
theorem f93_calls : Sound Tryz.prog 93 36 f93 [.cn 2 4] := sound_of mixed Tryz.func93 rfl (by kernel_rfl) (by kernel_rfl) (by kernel_rfl)
def f94r0 : LS := [o 2 (.new [(.int .i64 0), (.int .i64 0), (.string ⟨#[]⟩), (.slice none 0 0)])]
def f94r1 : LS := [o 6 (.mv (t 0)),o 7 (.call 149 [(t 6), (i 3), (i 3)])]
def f94r2 : LS := [o 8 (.mv (t 0)),o 9 (.call 163 [(t 8), (i 1)]),o 3 (.mv (t 9))]
def f94r3 : LS := [o 10 (.mv (t 0)),o 11 (.call 151 [(t 10), (i 3)])]
def f94r4 : LS := [o 13 (.mv (t 0)),o 14 (.nilck (t 13)),o 15 (.fa 0 (t 14)),o 16 (.fa 3 (t 15)),o 17 (.ld1 (t 16)),o 18 (.len (t 17)),o 19 (.mv (t 3)),o 20 (.call 168 [(t 18), (t 19)]),o 12 (.mv (t 20)),o 21 (.ext (t 12) 0),o 22 (.ext (t 12) 1),o 4 (.mv (t 21)),o 5 (.mv (t 22))]
def f94r5 : LS := [o 23 (.mv (t 5)),o 24 (.call 150 [(t 23), (.const (.string ⟨#[69, 82, 82, 32, 114, 97, 110, 103, 101]⟩))])]
def f94r6 : LS := [o 25 (.mv (t 0)),o 26 (.mv (t 4)),o 27 (.mv (t 0)),o 28 (.nilck (t 27)),o 29 (.fa 11 (t 28)),o 30 (.ld1 (t 29)),o 31 (.ixs 1 (t 30) (i 2)),o 32 (.ld1 (t 31)),o 33 (.build [(.int .i64 0), (.string ⟨#[]⟩), (.string ⟨#[]⟩), (.string ⟨#[]⟩), (.int .i64 0)] [(0, 1), (4, 1), (3, 1)] [(i 11), (t 26), (t 32)]),o 34 (.mv (t 0)),o 35 (.nilck (t 34)),o 36 (.fa 0 (t 35)),o 37 (.fa 3 (t 36)),o 38 (.ld1 (t 37)),o 39 (.len (t 38)),o 40 (.call 155 [(t 25), (t 33), (t 39)])]
def f94r7 : LS := [o 41 (.build [(.int .i64 0), (.int .i64 0), (.string ⟨#[]⟩), (.slice none 0 0)] [(0, 1), (2, 1)] [(i 1), (.const (.string ⟨#[79, 75]⟩))]),
 q (.st 4 (t 2) (t 41))]
def f94 : SCode := (.seq (.ops f94r0) (.seq (.ops f94r1) (.seq (.ops f94r2) (.seq (.ops f94r3) (.seq (.ops f94r4) (.seq (.ops f94r5) (.seq (.ops f94r6) (.seq (.ops f94r7) .ret))))))))
theorem f94_calls : Sound Tryz.prog 94 42 f94 [.cn 2 4] := sound_of mixed Tryz.func94 rfl (by kernel_rfl) (by kernel_rfl) (by kernel_rfl)
def f95r0 : LS := [o 2 (.new [(.int .i64 0), (.int .i64 0), (.string ⟨#[]⟩), (.slice none 0 0)])]
def f95r1 : LS := [o 7 (.mv (t 0)),o 8 (.call 157 [(t 7), (i 4), (i 2), (i 65536)])]
def f95r2 : LS := [o 3 (.mv (i 0))]
def f95r3 : LS := [o 9 (.mv (t 0)),o 10 (.fn 172 [(t 9)] []),o 11 (.call 152 [(t 10)]),o 4 (.mv (t 11))]
def f95r4 : LS := [o 12 (.mv (t 0)),o 13 (.nilck (t 12)),o 14 (.fa 11 (t 13)),o 15 (.ld1 (t 14)),o 16 (.slc 1 (t 15) (some (i 1)) none),o 17 (.len (t 16)),o 18 (.mv (i 0))]
def f95r5 : LS := [o 19 (.cmp .lss (t 18) (t 17))]
def f95r6 : LS := [o 20 (.ixs 1 (t 16) (t 18)),o 21 (.ld1 (t 20)),o 6 (.mv (t 21))]
def f95r7 : LS := [o 22 (.mv (t 4)),o 23 (.mv (t 6)),o 24 (.callv (t 22) [(t 23)])]
def f95r8 : LS := [o 25 (.mv (t 3)),o 26 (.ar .add (t 25) (i 1)),o 3 (.mv (t 26))]
def f95r9 : LS := [o 27 (.mv (t 0)),o 28 (.mv (t 6)),o 29 (.build [(.int .i64 0), (.string ⟨#[]⟩), (.string ⟨#[]⟩), (.string ⟨#[]⟩), (.int .i64 0)] [(0, 1), (2, 1)] [(i 12), (t 28)]),o 30 (.mv (t 0)),o 31 (.nilck (t 30)),o 32 (.fa 0 (t 31)),o 33 (.fa 3 (t 32)),o 34 (.ld1 (t 33)),o 35 (.len (t 34)),o 36 (.mv (t 3)),o 37 (.ar .add (t 35) (t 36)),o 38 (.call 155 [(t 27), (t 29), (t 37)])]
def f95r10 : LS := [o 39 (.ar .add (t 18) (i 1)),o 18 (.mv (t 39))]
def f95l11 : SCode := (.seq (.ops f95r5) (.seq (.cond (t 19) .skip (.exit 0)) (.seq (.block 1 (.seq (.ops f95r6) (.seq (.ops f95r7) (.cond (t 24) (.seq (.ops f95r8) (.ops f95r9)) .skip)))) (.ops f95r10))))
def f95r12 : LS := [o 40 (.mv (t 3)),o 41 (.call 156 [(t 40)]),
 q (.st 4 (t 2) (t 41))]
def f95 : SCode := (.seq (.ops f95r0) (.seq (.ops f95r1) (.seq (.ops f95r2) (.seq (.ops f95r3) (.seq (.seq (.ops f95r4) (.block 0 (.loop f95l11))) (.seq (.ops f95r12) .ret))))))
theorem f95_calls : Sound Tryz.prog 95 42 f95 [.cn 2 4] := sound_of mixed Tryz.func95 rfl (by kernel_rfl) (by kernel_rfl) (by kernel_rfl)
def f96r0 : LS := [o 2 (.new [(.int .i64 0), (.int .i64 0), (.string ⟨#[]⟩), (.slice none 0 0)])]
def f96r1 : LS := [o 3 (.mv (t 0)),o 4 (.call 157 [(t 3), (i 4), (i 2), (i 65536)])]
def f96r2 : LS := [o 5 (.mv (t 0)),o 6 (.mv (t 0)),o 7 (.fn 172 [(t 6)] []),o 8 (.call 159 [(t 5), (i 13), (t 7)]),
 q (.st 4 (t 2) (t 8))]
def f96 : SCode := (.seq (.ops f96r0) (.seq (.ops f96r1) (.seq (.ops f96r2) .ret)))
theorem f96_calls : Sound Tryz.prog 96 9 f96 [.cn 2 4] := sound_of mixed Tryz.func96 rfl (by kernel_rfl) (by kernel_rfl) (by kernel_rfl)
def f97r0 : LS := [o 2 (.new [(.int .i64 0), (.int .i64 0), (.string ⟨#[]⟩), (.slice none 0 0)])]
def f97r1 : LS := [o 3 (.mv (t 0)),o 4 (.call 157 [(t 3), (i 4), (i 2), (i 2)])]
def f97r2 : LS := [o 5 (.mv (t 0)),o 6 (.mv (t 0)),o 7 (.nilck (t 6)),o 8 (.fa 11 (t 7)),o 9 (.ld1 (t 8)),o 10 (.ixs 1 (t 9) (i 1)),o 11 (.ld1 (t 10)),o 12 (.call 172 [(t 5), (t 11)]),o 13 (.call 173 [(t 12)]),
 q (.st 4 (t 2) (t 13))]
def f97 : SCode := (.seq (.ops f97r0) (.seq (.ops f97r1) (.seq (.ops f97r2) .ret)))
theorem f97_calls : Sound Tryz.prog 97 14 f97 [.cn 2 4] := sound_of mixed Tryz.func97 rfl (by kernel_rfl) (by kernel_rfl) (by kernel_rfl)
def f98r0 : LS := [o 2 (.new [(.int .i64 0), (.int .i64 0), (.string ⟨#[]⟩), (.slice none 0 0)])]
def f98r1 : LS := [o 3 (.mv (t 0)),o 4 (.call 157 [(t 3), (i 4), (i 1), (i 1)])]
def f98r2 : LS := [o 5 (.mv (t 0)),o 6 (.nilck (t 5)),o 7 (.fa 0 (t 6)),o 8 (.fa 3 (t 7)),o 9 (.ld1 (t 8)),o 10 (.len (t 9)),o 11 (.call 156 [(t 10)]),
 q (.st 4 (t 2) (t 11))]
def f98 : SCode := (.seq (.ops f98r0) (.seq (.ops f98r1) (.seq (.ops f98r2) .ret)))
theorem f98_calls : Sound Tryz.prog 98 12 f98 [.cn 2 4] := sound_of mixed Tryz.func98 rfl (by kernel_rfl) (by kernel_rfl) (by kernel_rfl)
def f99r0 : LS := [o 2 (.new [(.int .i64 0), (.int .i64 0), (.string ⟨#[]⟩), (.slice none 0 0)])]
def f99r1 : LS := [o 3 (.mv (t 0)),o 4 (.call 157 [(t 3), (i 4), (i 1), (i 1)])]
def f99r2 : LS := [o 5 (.mv (t 0)),o 6 (.nilck (t 5)),o 7 (.fa 0 (t 6)),o 8 (.fa 3 (t 7)),o 9 (.ld1 (t 8)),o 10 (.call 170 [(t 9), (u 171)]),
 q (.st 4 (t 2) (t 10))]
def f99 : SCode := (.seq (.ops f99r0) (.seq (.ops f99r1) (.seq (.ops f99r2) .ret)))
theorem f99_calls : Sound Tryz.prog 99 11 f99 [.cn 2 4] := sound_of mixed Tryz.func99 rfl (by kernel_rfl) (by kernel_rfl) (by kernel_rfl)
def f100r0 : LS := [o 2 (.new [(.int .i64 0), (.int .i64 0), (.string ⟨#[]⟩), (.slice none 0 0)])]
def f100r1 : LS := [o 11 (.mv (t 0)),o 12 (.call 149 [(t 11), (i 1), (i 65536)])]
def f100r2 : LS := [o 13 (.mkm),o 3 (.mv (t 13))]
def f100r3 : LS := [o 14 (.mv (t 0)),o 15 (.nilck (t 14)),o 16 (.fa 11 (t 15)),o 17 (.ld1 (t 16)),o 18 (.len (t 17)),o 19 (.mv (i 0))]
def f100r4 : LS := [o 20 (.cmp .lss (t 19) (t 18))]
def f100r5 : LS := [o 21 (.mv (t 19)),o 22 (.ixs 1 (t 17) (t 19)),o 23 (.ld1 (t 22)),o 4 (.mv (t 21)),o 5 (.mv (t 23))]
def f100r6 : LS := [o 24 (.mv (t 0)),o 25 (.mv (t 5)),o 26 (.nilck (t 24)),o 27 (.fa 10 (t 26)),
 q (.st 1 (t 27) (t 25))]
def f100r7 : LS := [o 28 (.mv (t 0)),o 29 (.call 151 [(t 28), (i 4)])]
def f100r8 : LS := [o 30 (.mv (t 0)),o 31 (.nilck (t 30)),o 32 (.fa 0 (t 31)),o 33 (.fa 3 (t 32)),o 34 (.ld1 (t 33)),o 35 (.len (t 34)),o 36 (.mv (i 0))]
def f100r9 : LS := [o 37 (.cmp .lss (t 36) (t 35))]
def f100r10 : LS := [o 38 (.ixs 1 (t 34) (t 36)),o 39 (.ld1 (t 38)),o 7 (.mv (t 39))]
def f100r11 : LS := [o 40 (.mv (t 3)),o 41 (.mv (t 7)),o 42 (.look .str (.int .i64 0) false (t 40) (t 41)),o 43 (.mv (t 4)),o 44 (.cmp .eql (t 42) (t 43))]
def f100r12 : LS := [o 45 (.mv (t 3)),o 46 (.mv (t 7)),o 47 (.look .str (.int .i64 0) false (t 45) (t 46)),o 48 (.ar .add (t 47) (i 1)),
 q (.mup .str (t 45) (t 46) (t 48))]
def f100r13 : LS := [o 49 (.ar .add (t 36) (i 1)),o 36 (.mv (t 49))]
def f100l14 : SCode := (.seq (.ops f100r9) (.seq (.cond (t 37) .skip (.exit 2)) (.seq (.block 3 (.seq (.ops f100r10) (.seq (.ops f100r11) (.cond (t 44) (.ops f100r12) .skip)))) (.ops f100r13))))
def f100r15 : LS := [o 50 (.ar .add (t 19) (i 1)),o 19 (.mv (t 50))]
def f100l16 : SCode := (.seq (.ops f100r4) (.seq (.cond (t 20) .skip (.exit 0)) (.seq (.block 1 (.seq (.ops f100r5) (.seq (.ops f100r6) (.seq (.ops f100r7) (.seq (.ops f100r8) (.block 2 (.loop f100l14))))))) (.ops f100r15))))
def f100r17 : LS := [o 8 (.mv (.const (.slice none 0 0)))]
def f100r18 : LS := [o 51 (.mv (t 3)),o 52 (.call 174 [(t 51)]),o 53 (.call 119 [(t 52)]),o 54 (.len (t 53)),o 55 (.mv (i 0))]
def f100r19 : LS := [o 56 (.cmp .lss (t 55) (t 54))]
def f100r20 : LS := [o 57 (.ixs 1 (t 53) (t 55)),o 58 (.ld1 (t 57)),o 10 (.mv (t 58))]
def f100r21 : LS := [o 59 (.mv (t 3)),o 60 (.mv (t 10)),o 61 (.look .str (.int .i64 0) false (t 59) (t 60)),o 62 (.mv (t 0)),o 63 (.nilck (t 62)),o 64 (.fa 11 (t 63)),o 65 (.ld1 (t 64)),o 66 (.len (t 65)),o 67 (.cmp .eql (t 61) (t 66))]
def f100r22 : LS := [o 68 (.mv (t 8)),o 69 (.mv (t 10)),o 70 (.bslice [(.string ⟨#[]⟩)] 1 [(0, 1)] [(t 69)]),o 71 (.app 1 16 [(.string ⟨#[]⟩)] (t 68) (t 70)),o 8 (.mv (t 71))]
def f100r23 : LS := [o 72 (.ar .add (t 55) (i 1)),o 55 (.mv (t 72))]
def f100l24 : SCode := (.seq (.ops f100r19) (.seq (.cond (t 56) .skip (.exit 4)) (.seq (.block 5 (.seq (.ops f100r20) (.seq (.ops f100r21) (.cond (t 67) (.ops f100r22) .skip)))) (.ops f100r23))))
def f100r25 : LS := [o 73 (.mv (t 8)),o 74 (.call 170 [(t 73), (u 171)]),
 q (.st 4 (t 2) (t 74))]
def f100 : SCode := (.seq (.ops f100r0) (.seq (.ops f100r1) (.seq (.ops f100r2) (.seq (.seq (.ops f100r3) (.block 0 (.loop f100l16))) (.seq (.ops f100r17) (.seq (.seq (.ops f100r18) (.block 4 (.loop f100l24))) (.seq (.ops f100r25) .ret)))))))
theorem f100_calls : Sound Tryz.prog 100 75 f100 [.cn 2 4] := sound_of mixed Tryz.func100 rfl (by kernel_rfl) (by kernel_rfl) (by kernel_rfl)
def f101r0 : LS := [o 1 (.box (t 0)),o 2 (.new [(.int .i64 0), (.int .i64 0), (.string ⟨#[]⟩), (.slice none 0 0)])]
def f101r1 : LS := [o 6 (.ld1 (t 1)),o 7 (.call 149 [(t 6), (i 3), (i 65536)])]
def f101r2 : LS := [o 8 (.ld1 (t 1)),o 9 (.nilck (t 8)),o 10 (.fa 11 (t 9)),o 11 (.ld1 (t 10)),o 12 (.len (t 11)),o 13 (.rem (t 12) (i 2)),o 14 (.cmp .eql (t 13) (i 1)),o 15 (.call 150 [(t 14), (.const (.string ⟨#[69, 82, 82, 32, 97, 114, 103, 115]⟩))])]
def f101r3 : LS := [o 16 (.ld1 (t 1)),o 17 (.call 175 [(t 16), (i 1)])]
def f101r4 : LS := [o 18 (.ld1 (t 1)),o 19 (.call 151 [(t 18), (i 5)])]
def f101r5 : LS := [o 3 (.mv (i 0))]
def f101r6 : LS := [o 20 (.fn 176 [] [(t 1)]),o 21 (.call 152 [(t 20)]),o 4 (.mv (t 21))]
def f101r7 : LS := [o 5 (.mv (i 1))]
def f101r8 : LS := [o 22 (.mv (t 5)),o 23 (.ld1 (t 1)),o 24 (.nilck (t 23)),o 25 (.fa 11 (t 24)),o 26 (.ld1 (t 25)),o 27 (.len (t 26)),o 28 (.cmp .lss (t 22) (t 27))]
def f101r9 : LS := [o 31 (.mv (t 4)),o 32 (.ld1 (t 1)),o 33 (.nilck (t 32)),o 34 (.fa 11 (t 33)),o 35 (.ld1 (t 34)),o 36 (.mv (t 5)),o 37 (.ar .add (t 36) (i 1)),o 38 (.ixs 1 (t 35) (t 37)),o 39 (.ld1 (t 38)),o 40 (.callv (t 31) [(t 39)])]
def f101r10 : LS := [o 41 (.mv (t 3)),o 42 (.ar .add (t 41) (i 1)),o 3 (.mv (t 42))]
def f101r11 : LS := [o 43 (.ld1 (t 1)),o 44 (.ld1 (t 1)),o 45 (.nilck (t 44)),o 46 (.fa 11 (t 45)),o 47 (.ld1 (t 46)),o 48 (.mv (t 5)),o 49 (.ar .add (t 48) (i 1)),o 50 (.ixs 1 (t 47) (t 49)),o 51 (.ld1 (t 50)),o 52 (.ld1 (t 1)),o 53 (.mv (t 5)),o 56 (.ld1 (t 1)),o 57 (.nilck (t 56)),o 58 (.fa 0 (t 57)),o 59 (.fa 4 (t 58)),o 60 (.ld1 (t 59)),o 61 (.len (t 60)),o 62 (.mv (t 3)),o 63 (.ar .add (t 61) (t 62)),o 54 (.callq 163 [(t 52), (t 53)]),o 55 (.build [(.int .i64 0), (.string ⟨#[]⟩), (.string ⟨#[]⟩), (.string ⟨#[]⟩), (.int .i64 0)] [(0, 1), (2, 1), (4, 1)] [(i 14), (t 51), (t 54)]),o 64 (.call 155 [(t 43), (t 55), (t 63)])]
def f101r12 : LS := [o 29 (.mv (t 5)),o 30 (.ar .add (t 29) (i 2)),o 5 (.mv (t 30))]
def f101l13 : SCode := (.seq (.seq (.ops f101r8) (.cond (t 28) .skip (.exit 0))) (.seq (.block 1 (.seq (.seq (.ops f101r9) (.cond (t 40) (.ops f101r10) .skip)) (.ops f101r11))) (.ops f101r12)))
def f101r14 : LS := [o 65 (.mv (t 3)),o 66 (.call 156 [(t 65)]),
 q (.st 4 (t 2) (t 66))]
def f101 : SCode := (.seq (.ops f101r0) (.seq (.ops f101r1) (.seq (.ops f101r2) (.seq (.ops f101r3) (.seq (.ops f101r4) (.seq (.ops f101r5) (.seq (.ops f101r6) (.seq (.seq (.ops f101r7) (.block 0 (.loop f101l13))) (.seq (.ops f101r14) .ret)))))))))
theorem f101_calls : Sound Tryz.prog 101 67 f101 [.cn 2 4] := sound_of mixed Tryz.func101 rfl (by kernel_rfl) (by kernel_rfl) (by kernel_rfl)
def f102r0 : LS := [o 1 (.box (t 0)),o 2 (.new [(.int .i64 0), (.int .i64 0), (.string ⟨#[]⟩), (.slice none 0 0)])]
def f102r1 : LS := [o 3 (.ld1 (t 1)),o 4 (.call 157 [(t 3), (i 5), (i 2), (i 65536)])]
def f102r2 : LS := [o 5 (.ld1 (t 1)),o 6 (.fn 178 [] [(t 1)]),o 7 (.call 159 [(t 5), (i 15), (t 6)]),
 q (.st 4 (t 2) (t 7))]
def f102 : SCode := (.seq (.ops f102r0) (.seq (.ops f102r1) (.seq (.ops f102r2) .ret)))
theorem f102_calls : Sound Tryz.prog 102 8 f102 [.cn 2 4] := sound_of mixed Tryz.func102 rfl (by kernel_rfl) (by kernel_rfl) (by kernel_rfl)
def f103r0 : LS := [o 2 (.new [(.int .i64 0), (.int .i64 0), (.string ⟨#[]⟩), (.slice none 0 0)])]
def f103r1 : LS := [o 5 (.mv (t 0)),o 6 (.call 157 [(t 5), (i 5), (i 2), (i 2)])]
def f103r2 : LS := [o 8 (.mv (t 0)),o 9 (.mv (t 0)),o 10 (.nilck (t 9)),o 11 (.fa 11 (t 10)),o 12 (.ld1 (t 11)),o 13 (.ixs 1 (t 12) (i 1)),o 14 (.ld1 (t 13)),o 15 (.call 177 [(t 8), (t 14)]),o 7 (.mv (t 15)),o 16 (.ext (t 7) 0),o 17 (.ext (t 7) 1),o 3 (.mv (t 16)),o 4 (.mv (t 17))]
def f103r3 : LS := [o 18 (.mv (t 4)),o 19 (.un .not (t 18))]
def f103r4 : LS := [o 20 (.build [(.int .i64 0), (.int .i64 0), (.string ⟨#[]⟩), (.slice none 0 0)] [] []),
 q (.st 4 (t 2) (t 20))]
def f103r5 : LS := [o 21 (.mv (t 3)),o 22 (.call 34 [(t 21), (i 10)]),o 23 (.call 158 [(t 22)]),
 q (.st 4 (t 2) (t 23))]
def f103 : SCode := (.seq (.ops f103r0) (.seq (.ops f103r1) (.seq (.ops f103r2) (.seq (.seq (.ops f103r3) (.cond (t 19) (.seq (.ops f103r4) .ret) .skip)) (.seq (.ops f103r5) .ret)))))
theorem f103_calls : Sound Tryz.prog 103 24 f103 [.cn 2 4] := sound_of mixed Tryz.func103 rfl (by kernel_rfl) (by kernel_rfl) (by kernel_rfl)
def f104r0 : LS := [o 2 (.new [(.int .i64 0), (.int .i64 0), (.string ⟨#[]⟩), (.slice none 0 0)])]
def f104r1 : LS := [o 7 (.mv (t 0)),o 8 (.call 149 [(t 7), (i 3), (i 3)])]
def f104r2 : LS := [o 9 (.mv (t 0)),o 10 (.call 163 [(t 9), (i 1)]),o 3 (.mv (t 10))]
def f104r3 : LS := [o 11 (.mv (t 0)),o 12 (.call 151 [(t 11), (i 5)])]
def f104r4 : LS := [o 14 (.mv (t 0)),o 15 (.mv (t 0)),o 16 (.nilck (t 15)),o 17 (.fa 11 (t 16)),o 18 (.ld1 (t 17)),o 19 (.ixs 1 (t 18) (i 2)),o 20 (.ld1 (t 19)),o 21 (.call 177 [(t 14), (t 20)]),o 13 (.mv (t 21)),o 22 (.ext (t 13) 0),o 23 (.ext (t 13) 1),o 4 (.mv (t 22)),o 5 (.mv (t 23))]
def f104r5 : LS := [o 24 (.mv (t 4)),o 25 (.mv (t 3)),o 26 (.call 165 [(t 24), (t 25)]),o 4 (.mv (t 26))]
def f104r6 : LS := [o 27 (.mv (t 0)),o 28 (.nilck (t 27)),o 29 (.fa 0 (t 28)),o 30 (.fa 4 (t 29)),o 31 (.ld1 (t 30)),o 32 (.len (t 31)),o 6 (.mv (t 32))]
def f104r7 : LS := [o 33 (.mv (t 5)),o 34 (.un .not (t 33))]
def f104r8 : LS := [o 35 (.mv (t 6)),o 36 (.ar .add (t 35) (i 1)),o 6 (.mv (t 36))]
def f104r9 : LS := [o 37 (.mv (t 0)),o 38 (.mv (t 0)),o 39 (.nilck (t 38)),o 40 (.fa 11 (t 39)),o 41 (.ld1 (t 40)),o 42 (.ixs 1 (t 41) (i 2)),o 43 (.ld1 (t 42)),o 44 (.mv (t 4)),o 45 (.build [(.int .i64 0), (.string ⟨#[]⟩), (.string ⟨#[]⟩), (.string ⟨#[]⟩), (.int .i64 0)] [(0, 1), (2, 1), (4, 1)] [(i 14), (t 43), (t 44)]),o 46 (.mv (t 6)),o 47 (.call 155 [(t 37), (t 45), (t 46)])]
def f104r10 : LS := [o 48 (.mv (t 4)),o 49 (.call 34 [(t 48), (i 10)]),o 50 (.call 158 [(t 49)]),
 q (.st 4 (t 2) (t 50))]
def f104 : SCode := (.seq (.ops f104r0) (.seq (.ops f104r1) (.seq (.ops f104r2) (.seq (.ops f104r3) (.seq (.ops f104r4) (.seq (.ops f104r5) (.seq (.ops f104r6) (.seq (.seq (.ops f104r7) (.cond (t 34) (.ops f104r8) .skip)) (.seq (.ops f104r9) (.seq (.ops f104r10) .ret))))))))))
theorem f104_calls : Sound Tryz.prog 104 51 f104 [.cn 2 4] := sound_of mixed Tryz.func104 rfl (by kernel_rfl) (by kernel_rfl) (by kernel_rfl)
def f105r0 : LS := [o 2 (.new [(.int .i64 0), (.int .i64 0), (.string ⟨#[]⟩), (.slice none 0 0)])]
def f105r1 : LS := [o 3 (.mv (t 0)),o 4 (.call 157 [(t 3), (i 5), (i 1), (i 1)])]
def f105r2 : LS := [o 5 (.mv (t 0)),o 6 (.nilck (t 5)),o 7 (.fa 0 (t 6)),o 8 (.fa 4 (t 7)),o 9 (.ld1 (t 8)),o 10 (.len (t 9)),o 11 (.call 156 [(t 10)]),
 q (.st 4 (t 2) (t 11))]
def f105 : SCode := (.seq (.ops f105r0) (.seq (.ops f105r1) (.seq (.ops f105r2) .ret)))
theorem f105_calls : Sound Tryz.prog 105 12 f105 [.cn 2 4] := sound_of mixed Tryz.func105 rfl (by kernel_rfl) (by kernel_rfl) (by kernel_rfl)
def f106r0 : LS := [o 2 (.new [(.int .i64 0), (.int .i64 0), (.string ⟨#[]⟩), (.slice none 0 0)])]
def f106r1 : LS := [o 7 (.mv (t 0)),o 8 (.call 157 [(t 7), (i 5), (i 2), (i 2)])]
def f106r2 : LS := [o 10 (.mv (t 0)),o 11 (.nilck (t 10)),o 12 (.fa 0 (t 11)),o 13 (.fa 4 (t 12)),o 14 (.ld1 (t 13)),o 15 (.call 179 [(t 14), (.const (.slice none 0 0))]),o 9 (.mv (t 15)),o 16 (.ext (t 9) 0),o 17 (.ext (t 9) 1),o 3 (.mv (t 16)),o 4 (.mv (t 17))]
def f106r3 : LS := [o 19 (.mv (t 3)),o 20 (.mv (t 0)),o 21 (.nilck (t 20)),o 22 (.fa 11 (t 21)),o 23 (.ld1 (t 22)),o 24 (.ixs 1 (t 23) (i 1)),o 25 (.ld1 (t 24)),o 26 (.call 180 [(t 19), (t 25)]),o 18 (.mv (t 26)),o 27 (.ext (t 18) 0),o 28 (.ext (t 18) 1),o 5 (.mv (t 27)),o 6 (.mv (t 28))]
def f106r4 : LS := [o 29 (.mv (t 6)),o 30 (.un .not (t 29))]
def f106r5 : LS := [o 31 (.build [(.int .i64 0), (.int .i64 0), (.string ⟨#[]⟩), (.slice none 0 0)] [] []),
 q (.st 4 (t 2) (t 31))]
def f106r6 : LS := [o 32 (.mv (t 5)),o 33 (.call 156 [(t 32)]),
 q (.st 4 (t 2) (t 33))]
def f106 : SCode := (.seq (.ops f106r0) (.seq (.ops f106r1) (.seq (.ops f106r2) (.seq (.ops f106r3) (.seq (.seq (.ops f106r4) (.cond (t 30) (.seq (.ops f106r5) .ret) .skip)) (.seq (.ops f106r6) .ret))))))
theorem f106_calls : Sound Tryz.prog 106 34 f106 [.cn 2 4] := sound_of mixed Tryz.func106 rfl (by kernel_rfl) (by kernel_rfl) (by kernel_rfl)
def f107r0 : LS := [o 2 (.new [(.int .i64 0), (.int .i64 0), (.string ⟨#[]⟩), (.slice none 0 0)])]
def f107r1 : LS := [o 9 (.mv (t 0)),o 10 (.call 149 [(t 9), (i 3), (i 3)])]
def f107r2 : LS := [o 11 (.mv (t 0)),o 12 (.call 163 [(t 11), (i 1)]),o 13 (.mv (t 0)),o 14 (.call 163 [(t 13), (i 2)]),o 3 (.mv (t 12)),o 4 (.mv (t 14))]
def f107r3 : LS := [o 15 (.mv (t 0)),o 16 (.call 151 [(t 15), (i 5)])]
def f107r4 : LS := [o 18 (.mv (t 0)),o 19 (.nilck (t 18)),o 20 (.fa 0 (t 19)),o 21 (.fa 4 (t 20)),o 22 (.ld1 (t 21)),o 23 (.len (t 22)),o 24 (.mv (t 3)),o 25 (.mv (t 4)),o 26 (.call 169 [(t 23), (t 24), (t 25)]),o 17 (.mv (t 26)),o 27 (.ext (t 17) 0),o 28 (.ext (t 17) 1),o 5 (.mv (t 27)),o 6 (.mv (t 28))]
def f107r5 : LS := [o 30 (.mv (t 0)),o 31 (.nilck (t 30)),o 32 (.fa 0 (t 31)),o 33 (.fa 4 (t 32)),o 34 (.ld1 (t 33)),o 35 (.call 179 [(t 34), (.const (.slice none 0 0))]),o 29 (.mv (t 35)),o 36 (.ext (t 29) 0),o 37 (.ext (t 29) 1),o 7 (.mv (t 36)),o 8 (.mv (t 37))]
def f107r6 : LS := [o 38 (.mv (t 7)),o 39 (.mv (t 5)),o 40 (.mv (t 6)),o 41 (.call 182 [(t 38), (t 39), (t 40)]),o 42 (.call 181 [(t 41), (u 183)]),
 q (.st 4 (t 2) (t 42))]
def f107 : SCode := (.seq (.ops f107r0) (.seq (.ops f107r1) (.seq (.ops f107r2) (.seq (.ops f107r3) (.seq (.ops f107r4) (.seq (.ops f107r5) (.seq (.ops f107r6) .ret)))))))
theorem f107_calls : Sound Tryz.prog 107 43 f107 [.cn 2 4] := sound_of mixed Tryz.func107 rfl (by kernel_rfl) (by kernel_rfl) (by kernel_rfl)
def f108r0 : LS := [o 2 (.new [(.int .i64 0), (.int .i64 0), (.string ⟨#[]⟩), (.slice none 0 0)])]
def f108r1 : LS := [o 7 (.mv (t 0)),o 8 (.call 149 [(t 7), (i 3), (i 3)])]
def f108r2 : LS := [o 9 (.mv (t 0)),o 10 (.call 163 [(t 9), (i 1)]),o 11 (.mv (t 0)),o 12 (.call 163 [(t 11), (i 2)]),o 3 (.mv (t 10)),o 4 (.mv (t 12))]
def f108r3 : LS := [o 13 (.mv (t 0)),o 14 (.call 151 [(t 13), (i 5)])]
def f108r4 : LS := [o 16 (.mv (t 0)),o 17 (.nilck (t 16)),o 18 (.fa 0 (t 17)),o 19 (.fa 4 (t 18)),o 20 (.ld1 (t 19)),o 21 (.call 179 [(t 20), (.const (.slice none 0 0))]),o 15 (.mv (t 21)),o 22 (.ext (t 15) 0),o 23 (.ext (t 15) 1),o 5 (.mv (t 22)),o 6 (.mv (t 23))]
def f108r5 : LS := [o 24 (.mv (t 5)),o 25 (.mv (t 3)),o 26 (.mv (t 4)),o 27 (.call 184 [(t 24), (t 25), (t 26)]),o 28 (.call 181 [(t 27), (u 183)]),
 q (.st 4 (t 2) (t 28))]
def f108 : SCode := (.seq (.ops f108r0) (.seq (.ops f108r1) (.seq (.ops f108r2) (.seq (.ops f108r3) (.seq (.ops f108r4) (.seq (.ops f108r5) .ret))))))
theorem f108_calls : Sound Tryz.prog 108 29 f108 [.cn 2 4] := sound_of mixed Tryz.func108 rfl (by kernel_rfl) (by kernel_rfl) (by kernel_rfl)
def f149r0 : LS := [o 6 (.mv (t 0)),o 7 (.nilck (t 6)),o 8 (.fa 11 (t 7)),o 9 (.ld1 (t 8)),o 10 (.len (t 9)),o 11 (.mv (t 1)),o 12 (.cmp .geq (t 10) (t 11)),o 13 (.mv (t 12)),
 g 14 13 (.mv (t 0)),
 g 15 13 (.nilck (t 14)),
 g 16 13 (.fa 11 (t 15)),
 g 17 13 (.ld1 (t 16)),
 g 18 13 (.len (t 17)),
 g 19 13 (.mv (t 2)),
 g 20 13 (.cmp .leq (t 18) (t 19)),o 21 (.pick (t 13) (t 20) (b false)),o 22 (.call 150 [(t 21), (.const (.string ⟨#[69, 82, 82, 32, 97, 114, 103, 115]⟩))])]
def f149r1 : LS := [o 23 (.mv (t 0)),o 24 (.mv (t 0)),o 25 (.nilck (t 24)),o 26 (.fa 11 (t 25)),o 27 (.ld1 (t 26)),o 28 (.ixs 1 (t 27) (i 0)),o 29 (.ld1 (t 28)),o 30 (.nilck (t 23)),o 31 (.fa 10 (t 30)),
 q (.st 1 (t 31) (t 29))]
def f149 : SCode := (.seq (.ops f149r0) (.ops f149r1))
theorem f149_calls : Sound Tryz.prog 149 32 f149 [] := sound_of mixed Tryz.func149 rfl (by kernel_rfl) (by kernel_rfl) (by kernel_rfl)
def f150r0 : LS := [o 4 (.mv (t 0)),o 5 (.un .not (t 4))]
def f150r1 : LS := [o 6 (.mv (t 1)),o 7 (.build [(.string ⟨#[]⟩)] [(0, 1)] [(t 6)]),o 8 (.mki 92 (t 7)),
 q (.pan (t 8))]
def f150 : SCode := (.seq (.ops f150r0) (.cond (t 5) (.ops f150r1) .skip))
theorem f150_calls : Sound Tryz.prog 150 9 f150 [] := sound_of mixed Tryz.func150 rfl (by kernel_rfl) (by kernel_rfl) (by kernel_rfl)
def f151r0 : LS := [o 5 (.mv (t 0)),o 6 (.mv (t 0)),o 7 (.mv (t 0)),o 8 (.nilck (t 7)),o 9 (.fa 8 (t 8)),o 10 (.ld1 (t 9)),o 11 (.mv (t 0)),o 12 (.nilck (t 11)),o 13 (.fa 10 (t 12)),o 14 (.ld1 (t 13)),o 15 (.mv (t 0)),o 16 (.nilck (t 15)),o 17 (.fa 9 (t 16)),o 18 (.ld1 (t 17)),o 19 (.call 45 [(t 10), (t 14), (t 18)]),o 4 (.mv (t 19)),o 20 (.ext (t 4) 0),o 21 (.ext (t 4) 1),o 22 (.nilck (t 5)),o 23 (.fa 0 (t 22)),
 q (.st 7 (t 23) (t 20)),o 24 (.nilck (t 6)),o 25 (.fa 7 (t 24)),
 q (.st 1 (t 25) (t 21))]
def f151r1 : LS := [o 26 (.mv (t 0)),o 27 (.nilck (t 26)),o 28 (.fa 7 (t 27)),o 29 (.ld1 (t 28)),o 30 (.un .not (t 29)),o 31 (.mv (t 30)),
 n 32 31 (.mv (t 0)),
 n 33 31 (.nilck (t 32)),
 n 34 31 (.fa 0 (t 33)),
 n 35 31 (.fa 0 (t 34)),
 n 36 31 (.ld1 (t 35)),
 n 37 31 (.mv (t 1)),
 n 38 31 (.cmp .eql (t 36) (t 37)),o 39 (.pick (t 31) (b true) (t 38)),o 40 (.call 150 [(t 39), (.const (.string ⟨#[87, 82, 79, 78, 71, 84, 89, 80, 69]⟩))])]
def f151 : SCode := (.seq (.ops f151r0) (.ops f151r1))
theorem f151_calls : Sound Tryz.prog 151 41 f151 [] := sound_of mixed Tryz.func151 rfl (by kernel_rfl) (by kernel_rfl) (by kernel_rfl)
def f152r0 : LS := [o 1 (.box (t 0)),o 2 (.mv (.const .nilFunc))]
def f152r1 : LS := [o 4 (.mkm),o 3 (.new [(.map none)]),
 q (.st 1 (t 3) (t 4))]
def f152r2 : LS := [o 5 (.fn 228 [] [(t 3), (t 1)]),o 2 (.mv (t 5))]
def f152 : SCode := (.seq (.ops f152r0) (.seq (.ops f152r1) (.seq (.ops f152r2) .ret)))
theorem f152_calls : Sound Tryz.prog 152 6 f152 [.t 2] := sound_of mixed Tryz.func152 rfl (by kernel_rfl) (by kernel_rfl) (by kernel_rfl)
def f153r0 : LS := [o 3 (.mv (b false))]
def f153r1 : LS := [o 7 (.ld1 (t 1)),o 8 (.mv (t 0)),o 9 (.call 154 [(t 7), (t 8)]),o 6 (.mv (t 9)),o 10 (.ext (t 6) 0),o 11 (.ext (t 6) 1),o 4 (.mv (t 10)),o 5 (.mv (t 11))]
def f153r2 : LS := [o 12 (.mv (t 5)),o 3 (.mv (t 12))]
def f153 : SCode := (.seq (.ops f153r0) (.seq (.ops f153r1) (.seq (.ops f153r2) .ret)))
theorem f153_calls : Sound Tryz.prog 153 13 f153 [.t 3] := sound_of mixed Tryz.func153 rfl (by kernel_rfl) (by kernel_rfl) (by kernel_rfl)
def f154r0 : LS := [o 3 (.box (t 1)),o 4 (.mv e),o 5 (.mv (b false))]
def f154r1 : LS := [o 7 (.mv (t 0)),o 8 (.nilck (t 7)),o 9 (.fa 0 (t 8)),o 10 (.fa 2 (t 9)),o 11 (.ld1 (t 10)),o 12 (.fn 230 [] [(t 3)]),o 13 (.call 229 [(t 11), (t 12)]),o 6 (.mv (t 13))]
def f154r2 : LS := [o 14 (.mv (t 6)),o 15 (.cmp .lss (t 14) (i 0))]
def f154r3 : LS := [o 4 (.mv e),o 5 (.mv (b false))]
def f154r4 : LS := [o 16 (.mv (t 0)),o 17 (.nilck (t 16)),o 18 (.fa 0 (t 17)),o 19 (.fa 2 (t 18)),o 20 (.ld1 (t 19)),o 21 (.mv (t 6)),o 22 (.ixs 2 (t 20) (t 21)),o 23 (.fa 1 (t 22)),o 24 (.ld1 (t 23)),o 4 (.mv (t 24)),o 5 (.mv (b true))]
def f154 : SCode := (.seq (.ops f154r0) (.seq (.ops f154r1) (.seq (.seq (.ops f154r2) (.cond (t 15) (.seq (.ops f154r3) .ret) .skip)) (.seq (.ops f154r4) .ret))))
theorem f154_calls : Sound Tryz.prog 154 25 f154 [.t 4, .t 5] := sound_of mixed Tryz.func154 rfl (by kernel_rfl) (by kernel_rfl) (by kernel_rfl)
def f155r0 : LS := [o 4 (.box (t 1))]
def f155r1 : LS := [o 6 (.mv (t 2)),o 7 (.cmp .leq (t 6) (i 65536)),o 8 (.mv (t 7)),
 g 9 8 (.mv (t 0)),
 g 10 8 (.nilck (t 9)),
 g 11 8 (.fa 10 (t 10)),
 g 12 8 (.ld1 (t 11)),
 g 13 8 (.lens (t 12)),
 g 14 8 (.cmp .leq (t 13) (i 1048576)),o 15 (.pick (t 8) (t 14) (b false)),o 16 (.mv (t 15)),
 g 17 16 (.fa 2 (t 4)),
 g 18 16 (.ld1 (t 17)),
 g 19 16 (.lens (t 18)),
 g 20 16 (.cmp .leq (t 19) (i 1048576)),o 21 (.pick (t 16) (t 20) (b false)),o 22 (.mv (t 21)),
 g 23 22 (.fa 3 (t 4)),
 g 24 22 (.ld1 (t 23)),
 g 25 22 (.lens (t 24)),
 g 26 22 (.cmp .leq (t 25) (i 1048576)),o 27 (.pick (t 22) (t 26) (b false)),o 28 (.call 150 [(t 27), (.const (.string ⟨#[69, 82, 82, 32, 108, 111, 110, 103]⟩))])]
def f155r2 : LS := [o 29 (.mv (t 0)),o 30 (.nilck (t 29)),o 31 (.fa 12 (t 30)),o 32 (.ld1 (t 31)),o 33 (.len (t 32)),o 34 (.cmp .eql (t 33) (i 0))]
def f155r3 : LS := [o 35 (.mv (t 0)),o 36 (.mv (t 0)),o 37 (.nilck (t 36)),o 38 (.fa 8 (t 37)),o 39 (.ld1 (t 38)),o 40 (.mv (t 0)),o 41 (.nilck (t 40)),o 42 (.fa 9 (t 41)),o 43 (.ld1 (t 42)),o 44 (.mv (t 0)),o 45 (.nilck (t 44)),o 46 (.fa 10 (t 45)),o 47 (.ld1 (t 46)),o 48 (.call 231 [(t 39), (t 43), (t 47)]),o 49 (.nilck (t 35)),o 50 (.fa 12 (t 49)),
 q (.st 1 (t 50) (t 48))]
def f155r4 : LS := [o 51 (.mv (t 0)),o 52 (.nilck (t 51)),o 53 (.fa 10 (t 52)),o 54 (.ld1 (t 53)),o 55 (.fa 1 (t 4)),
 q (.st 1 (t 55) (t 54))]
def f155r5 : LS := [o 56 (.mv (t 0)),o 57 (.mv (t 0)),o 58 (.nilck (t 57)),o 59 (.fa 12 (t 58)),o 60 (.ld1 (t 59)),o 61 (.ldn 5 (t 4)),o 62 (.bslice [(.int .i64 0), (.string ⟨#[]⟩), (.string ⟨#[]⟩), (.string ⟨#[]⟩), (.int .i64 0)] 1 [(0, 5)] [(t 61)]),o 63 (.app 5 64 [(.int .i64 0), (.string ⟨#[]⟩), (.string ⟨#[]⟩), (.string ⟨#[]⟩), (.int .i64 0)] (t 60) (t 62)),o 64 (.nilck (t 56)),o 65 (.fa 12 (t 64)),
 q (.st 1 (t 65) (t 63))]
def f155 : SCode := (.seq (.ops f155r0) (.seq (.ops f155r1) (.seq (.seq (.ops f155r2) (.cond (t 34) (.ops f155r3) .skip)) (.seq (.ops f155r4) (.ops f155r5)))))
theorem f155_calls : Sound Tryz.prog 155 66 f155 [] := sound_of mixed Tryz.func155 rfl (by kernel_rfl) (by kernel_rfl) (by kernel_rfl)
def f156r0 : LS := [o 2 (.new [(.int .i64 0), (.int .i64 0), (.string ⟨#[]⟩), (.slice none 0 0)])]
def f156r1 : LS := [o 3 (.mv (t 0)),o 4 (.build [(.int .i64 0), (.int .i64 0), (.string ⟨#[]⟩), (.slice none 0 0)] [(0, 1), (1, 1)] [(i 3), (t 3)]),
 q (.st 4 (t 2) (t 4))]
def f156 : SCode := (.seq (.ops f156r0) (.seq (.ops f156r1) .ret))
theorem f156_calls : Sound Tryz.prog 156 5 f156 [.cn 2 4] := sound_of mixed Tryz.func156 rfl (by kernel_rfl) (by kernel_rfl) (by kernel_rfl)
def f157r0 : LS := [o 8 (.mv (t 0)),o 9 (.mv (t 2)),o 10 (.mv (t 3)),o 11 (.call 149 [(t 8), (t 9), (t 10)])]
def f157r1 : LS := [o 12 (.mv (t 0)),o 13 (.mv (t 1)),o 14 (.call 151 [(t 12), (t 13)])]
def f157 : SCode := (.seq (.ops f157r0) (.ops f157r1))
theorem f157_calls : Sound Tryz.prog 157 15 f157 [] := sound_of mixed Tryz.func157 rfl (by kernel_rfl) (by kernel_rfl) (by kernel_rfl)
def f158r0 : LS := [o 2 (.new [(.int .i64 0), (.int .i64 0), (.string ⟨#[]⟩), (.slice none 0 0)])]
def f158r1 : LS := [o 3 (.mv (t 0)),o 4 (.build [(.int .i64 0), (.int .i64 0), (.string ⟨#[]⟩), (.slice none 0 0)] [(0, 1), (2, 1)] [(i 4), (t 3)]),
 q (.st 4 (t 2) (t 4))]
def f158 : SCode := (.seq (.ops f158r0) (.seq (.ops f158r1) .ret))
theorem f158_calls : Sound Tryz.prog 158 5 f158 [.cn 2 4] := sound_of mixed Tryz.func158 rfl (by kernel_rfl) (by kernel_rfl) (by kernel_rfl)
def f159r0 : LS := [o 5 (.box (t 2)),o 6 (.new [(.int .i64 0), (.int .i64 0), (.string ⟨#[]⟩), (.slice none 0 0)])]
def f159r1 : LS := [o 7 (.mv (i 0))]
def f159r2 : LS := [o 11 (.fn 232 [] [(t 5)]),o 12 (.call 152 [(t 11)]),o 8 (.mv (t 12))]
def f159r3 : LS := [o 13 (.mv (t 0)),o 14 (.nilck (t 13)),o 15 (.fa 11 (t 14)),o 16 (.ld1 (t 15)),o 17 (.slc 1 (t 16) (some (i 1)) none),o 18 (.len (t 17)),o 19 (.mv (i 0))]
def f159r4 : LS := [o 20 (.cmp .lss (t 19) (t 18))]
def f159r5 : LS := [o 21 (.ixs 1 (t 17) (t 19)),o 22 (.ld1 (t 21)),o 10 (.mv (t 22))]
def f159r6 : LS := [o 23 (.mv (t 8)),o 24 (.mv (t 10)),o 25 (.callv (t 23) [(t 24)])]
def f159r7 : LS := [o 26 (.mv (t 7)),o 27 (.ar .add (t 26) (i 1)),o 7 (.mv (t 27))]
def f159r8 : LS := [o 28 (.mv (t 0)),o 29 (.mv (t 1)),o 30 (.mv (t 10)),o 31 (.build [(.int .i64 0), (.string ⟨#[]⟩), (.string ⟨#[]⟩), (.string ⟨#[]⟩), (.int .i64 0)] [(0, 1), (2, 1)] [(t 29), (t 30)]),o 32 (.call 233 [(t 28), (t 31)])]
def f159r9 : LS := [o 33 (.ar .add (t 19) (i 1)),o 19 (.mv (t 33))]
def f159l10 : SCode := (.seq (.ops f159r4) (.seq (.cond (t 20) .skip (.exit 0)) (.seq (.block 1 (.seq (.ops f159r5) (.seq (.ops f159r6) (.cond (t 25) (.seq (.ops f159r7) (.ops f159r8)) .skip)))) (.ops f159r9))))
def f159r11 : LS := [o 34 (.mv (t 7)),o 35 (.call 156 [(t 34)]),
 q (.st 4 (t 6) (t 35))]
def f159 : SCode := (.seq (.ops f159r0) (.seq (.ops f159r1) (.seq (.ops f159r2) (.seq (.seq (.ops f159r3) (.block 0 (.loop f159l10))) (.seq (.ops f159r11) .ret)))))
theorem f159_calls : Sound Tryz.prog 159 36 f159 [.cn 6 4] := sound_of mixed Tryz.func159 rfl (by kernel_rfl) (by kernel_rfl) (by kernel_rfl)
def f160r0 : LS := [o 3 (.mv (b false))]
def f160r1 : LS := [o 7 (.ld1 (t 1)),o 8 (.mv (t 0)),o 9 (.call 154 [(t 7), (t 8)]),o 6 (.mv (t 9)),o 10 (.ext (t 6) 0),o 11 (.ext (t 6) 1),o 4 (.mv (t 10)),o 5 (.mv (t 11))]
def f160r2 : LS := [o 12 (.mv (t 5)),o 3 (.mv (t 12))]
def f160 : SCode := (.seq (.ops f160r0) (.seq (.ops f160r1) (.seq (.ops f160r2) .ret)))
theorem f160_calls : Sound Tryz.prog 160 13 f160 [.t 3] := sound_of mixed Tryz.func160 rfl (by kernel_rfl) (by kernel_rfl) (by kernel_rfl)
def f161r0 : LS := [o 4 (.new [(.int .i64 0), (.int .i64 0), (.string ⟨#[]⟩), (.slice none 0 0)])]
def f161r1 : LS := [o 10 (.build [(.int .i64 0), (.int .i64 0), (.string ⟨#[]⟩), (.slice none 0 0)] [(0, 1)] [(i 5)]),o 5 (.new [(.int .i64 0), (.int .i64 0), (.string ⟨#[]⟩), (.slice none 0 0)]),
 q (.st 4 (t 5) (t 10))]
def f161r2 : LS := [o 11 (.mv (t 0)),o 12 (.len (t 11)),o 13 (.mv (i 0))]
def f161r3 : LS := [o 14 (.cmp .lss (t 13) (t 12))]
def f161r4 : LS := [o 15 (.ixs 2 (t 11) (t 13)),o 16 (.ldn 2 (t 15)),o 7 (.new [(.string ⟨#[]⟩), (.string ⟨#[]⟩)]),
 q (.st 2 (t 7) (t 16))]
def f161r5 : LS := [o 17 (.mv (t 1)),o 18 (.ldn 2 (t 7)),o 19 (.callv (t 17) [(t 18)]),o 20 (.len (t 19)),o 21 (.mv (i 0))]
def f161r6 : LS := [o 22 (.cmp .lss (t 21) (t 20))]
def f161r7 : LS := [o 23 (.ixs 1 (t 19) (t 21)),o 24 (.ld1 (t 23)),o 9 (.mv (t 24))]
def f161r8 : LS := [o 25 (.fa 3 (t 5)),o 26 (.ld1 (t 25)),o 27 (.mv (t 9)),o 28 (.callq 158 [(t 27)]),o 29 (.bslice [(.int .i64 0), (.int .i64 0), (.string ⟨#[]⟩), (.slice none 0 0)] 1 [(0, 4)] [(t 28)]),o 30 (.app 4 56 [(.int .i64 0), (.int .i64 0), (.string ⟨#[]⟩), (.slice none 0 0)] (t 26) (t 29)),o 31 (.fa 3 (t 5)),
 q (.st 1 (t 31) (t 30))]
def f161r9 : LS := [o 32 (.ar .add (t 21) (i 1)),o 21 (.mv (t 32))]
def f161l10 : SCode := (.seq (.ops f161r6) (.seq (.cond (t 22) .skip (.exit 2)) (.seq (.block 3 (.seq (.ops f161r7) (.ops f161r8))) (.ops f161r9))))
def f161r11 : LS := [o 33 (.ar .add (t 13) (i 1)),o 13 (.mv (t 33))]
def f161l12 : SCode := (.seq (.ops f161r3) (.seq (.cond (t 14) .skip (.exit 0)) (.seq (.block 1 (.seq (.ops f161r4) (.seq (.ops f161r5) (.block 2 (.loop f161l10))))) (.ops f161r11))))
def f161r13 : LS := [o 34 (.ldn 4 (t 5)),
 q (.st 4 (t 4) (t 34))]
def f161 : SCode := (.seq (.ops f161r0) (.seq (.ops f161r1) (.seq (.seq (.ops f161r2) (.block 0 (.loop f161l12))) (.seq (.ops f161r13) .ret))))
theorem f161_calls : Sound Tryz.prog 161 35 f161 [.cn 4 4] := sound_of mixed Tryz.func161 rfl (by kernel_rfl) (by kernel_rfl) (by kernel_rfl)
def f162r0 : LS := [o 1 (.box (t 0)),o 2 (.mv (.const (.slice none 0 0)))]
def f162r1 : LS := [o 3 (.fa 0 (t 1)),o 4 (.ld1 (t 3)),o 5 (.fa 1 (t 1)),o 6 (.ld1 (t 5)),o 7 (.bslice [(.string ⟨#[]⟩), (.string ⟨#[]⟩)] 2 [(0, 1), (1, 1)] [(t 4), (t 6)]),o 2 (.mv (t 7))]
def f162 : SCode := (.seq (.ops f162r0) (.seq (.ops f162r1) .ret))
theorem f162_calls : Sound Tryz.prog 162 8 f162 [.t 2] := sound_of mixed Tryz.func162 rfl (by kernel_rfl) (by kernel_rfl) (by kernel_rfl)
def f163r0 : LS := [o 4 (.mv (i 0))]
def f163r1 : LS := [o 8 (.mv (t 0)),o 9 (.nilck (t 8)),o 10 (.fa 11 (t 9)),o 11 (.ld1 (t 10)),o 12 (.mv (t 1)),o 13 (.ixs 1 (t 11) (t 12)),o 14 (.ld1 (t 13)),o 15 (.call 164 [(t 14)]),o 7 (.mv (t 15)),o 16 (.ext (t 7) 0),o 17 (.ext (t 7) 1),o 5 (.mv (t 16)),o 6 (.mv (t 17))]
def f163r2 : LS := [o 18 (.mv (t 6)),o 19 (.call 150 [(t 18), (.const (.string ⟨#[69, 82, 82, 32, 110, 117, 109, 98, 101, 114]⟩))])]
def f163r3 : LS := [o 20 (.mv (t 5)),o 4 (.mv (t 20))]
def f163 : SCode := (.seq (.ops f163r0) (.seq (.ops f163r1) (.seq (.ops f163r2) (.seq (.ops f163r3) .ret))))
theorem f163_calls : Sound Tryz.prog 163 21 f163 [.t 4] := sound_of mixed Tryz.func163 rfl (by kernel_rfl) (by kernel_rfl) (by kernel_rfl)
def f165r0 : LS := [o 4 (.mv (i 0))]
def f165r1 : LS := [o 5 (.mv (t 1)),o 6 (.cmp .geq (t 5) (i 0)),o 7 (.mv (t 6)),
 g 8 7 (.mv (t 0)),
 g 9 7 (.mv (t 1)),
 g 10 7 (.ar .sub (i 9223372036854775807) (t 9)),
 g 11 7 (.cmp .leq (t 8) (t 10)),o 12 (.pick (t 7) (t 11) (b false)),o 13 (.mv (t 12)),
 n 14 13 (.mv (t 1)),
 n 15 13 (.cmp .lss (t 14) (i 0)),
 n 16 13 (.mv (t 15)),
 g 17 16 (.mv (t 0)),
 g 18 16 (.mv (t 1)),
 g 19 16 (.ar .sub (i (-9223372036854775808)) (t 18)),
 g 20 16 (.cmp .geq (t 17) (t 19)),
 n 21 13 (.pick (t 16) (t 20) (b false)),o 22 (.pick (t 13) (b true) (t 21)),o 23 (.call 150 [(t 22), (.const (.string ⟨#[69, 82, 82, 32, 111, 118, 101, 114]⟩))])]
def f165r2 : LS := [o 24 (.mv (t 0)),o 25 (.mv (t 1)),o 26 (.ar .add (t 24) (t 25)),o 4 (.mv (t 26))]
def f165 : SCode := (.seq (.ops f165r0) (.seq (.ops f165r1) (.seq (.ops f165r2) .ret)))
theorem f165_calls : Sound Tryz.prog 165 27 f165 [.t 4] := sound_of mixed Tryz.func165 rfl (by kernel_rfl) (by kernel_rfl) (by kernel_rfl)
def f166r0 : LS := [o 4 (.new [(.int .i64 0), (.int .i64 0), (.string ⟨#[]⟩), (.slice none 0 0)])]
def f166r1 : LS := [o 7 (.mv (t 0)),o 8 (.call 157 [(t 7), (i 3), (i 2), (i 65536)])]
def f166r2 : LS := [o 9 (.mv (t 0)),o 10 (.nilck (t 9)),o 11 (.fa 11 (t 10)),o 12 (.ld1 (t 11)),o 13 (.slc 1 (t 12) (some (i 1)) none),o 14 (.len (t 13)),o 15 (.mv (i 0))]
def f166r3 : LS := [o 16 (.cmp .lss (t 15) (t 14))]
def f166r4 : LS := [o 17 (.mv (t 15)),o 18 (.ixs 1 (t 13) (t 15)),o 19 (.ld1 (t 18)),o 5 (.mv (t 17)),o 6 (.mv (t 19))]
def f166r5 : LS := [o 20 (.mv (t 0)),o 21 (.mv (t 1)),o 22 (.mv (t 6)),o 23 (.build [(.int .i64 0), (.string ⟨#[]⟩), (.string ⟨#[]⟩), (.string ⟨#[]⟩), (.int .i64 0)] [(0, 1), (3, 1)] [(t 21), (t 22)]),o 24 (.mv (t 0)),o 25 (.nilck (t 24)),o 26 (.fa 0 (t 25)),o 27 (.fa 3 (t 26)),o 28 (.ld1 (t 27)),o 29 (.len (t 28)),o 30 (.mv (t 5)),o 31 (.ar .add (t 29) (t 30)),o 32 (.ar .add (t 31) (i 1)),o 33 (.call 155 [(t 20), (t 23), (t 32)])]
def f166r6 : LS := [o 34 (.ar .add (t 15) (i 1)),o 15 (.mv (t 34))]
def f166l7 : SCode := (.seq (.ops f166r3) (.seq (.cond (t 16) .skip (.exit 0)) (.seq (.block 1 (.seq (.ops f166r4) (.ops f166r5))) (.ops f166r6))))
def f166r8 : LS := [o 35 (.mv (t 0)),o 36 (.nilck (t 35)),o 37 (.fa 0 (t 36)),o 38 (.fa 3 (t 37)),o 39 (.ld1 (t 38)),o 40 (.len (t 39)),o 41 (.mv (t 0)),o 42 (.nilck (t 41)),o 43 (.fa 11 (t 42)),o 44 (.ld1 (t 43)),o 45 (.len (t 44)),o 46 (.ar .add (t 40) (t 45)),o 47 (.ar .sub (t 46) (i 1)),o 48 (.call 156 [(t 47)]),
 q (.st 4 (t 4) (t 48))]
def f166 : SCode := (.seq (.ops f166r0) (.seq (.ops f166r1) (.seq (.seq (.ops f166r2) (.block 0 (.loop f166l7))) (.seq (.ops f166r8) .ret))))
theorem f166_calls : Sound Tryz.prog 166 49 f166 [.cn 4 4] := sound_of mixed Tryz.func166 rfl (by kernel_rfl) (by kernel_rfl) (by kernel_rfl)
def f167r0 : LS := [o 6 (.new [(.int .i64 0), (.int .i64 0), (.string ⟨#[]⟩), (.slice none 0 0)])]
def f167r1 : LS := [o 9 (.mv (t 0)),o 10 (.call 157 [(t 9), (i 3), (i 1), (i 1)])]
def f167r2 : LS := [o 12 (.mv (t 0)),o 13 (.nilck (t 12)),o 14 (.fa 0 (t 13)),o 15 (.fa 3 (t 14)),o 16 (.ld1 (t 15)),o 17 (.len (t 16)),o 18 (.mv (t 2)),o 19 (.call 168 [(t 17), (t 18)]),o 11 (.mv (t 19)),o 20 (.ext (t 11) 0),o 21 (.ext (t 11) 1),o 7 (.mv (t 20)),o 8 (.mv (t 21))]
def f167r3 : LS := [o 22 (.mv (t 8)),o 23 (.un .not (t 22))]
def f167r4 : LS := [o 24 (.build [(.int .i64 0), (.int .i64 0), (.string ⟨#[]⟩), (.slice none 0 0)] [] []),
 q (.st 4 (t 6) (t 24))]
def f167r5 : LS := [o 25 (.mv (t 0)),o 26 (.mv (t 1)),o 27 (.build [(.int .i64 0), (.string ⟨#[]⟩), (.string ⟨#[]⟩), (.string ⟨#[]⟩), (.int .i64 0)] [(0, 1)] [(t 26)]),o 28 (.call 233 [(t 25), (t 27)])]
def f167r6 : LS := [o 29 (.mv (t 0)),o 30 (.nilck (t 29)),o 31 (.fa 0 (t 30)),o 32 (.fa 3 (t 31)),o 33 (.ld1 (t 32)),o 34 (.mv (t 7)),o 35 (.ixs 1 (t 33) (t 34)),o 36 (.ld1 (t 35)),o 37 (.call 158 [(t 36)]),
 q (.st 4 (t 6) (t 37))]
def f167 : SCode := (.seq (.ops f167r0) (.seq (.ops f167r1) (.seq (.ops f167r2) (.seq (.seq (.ops f167r3) (.cond (t 23) (.seq (.ops f167r4) .ret) .skip)) (.seq (.ops f167r5) (.seq (.ops f167r6) .ret))))))
theorem f167_calls : Sound Tryz.prog 167 38 f167 [.cn 6 4] := sound_of mixed Tryz.func167 rfl (by kernel_rfl) (by kernel_rfl) (by kernel_rfl)
def f168r0 : LS := [o 4 (.mv (i 0)),o 5 (.mv (b false))]
def f168r1 : LS := [o 6 (.mv (t 1)),o 7 (.cmp .lss (t 6) (i 0))]
def f168r2 : LS := [o 8 (.mv (t 1)),o 9 (.mv (t 0)),o 10 (.mx (t 9) (i 0)),o 11 (.ar .add (t 8) (t 10)),o 1 (.mv (t 11))]
def f168r3 : LS := [o 12 (.mv (t 1)),o 13 (.cmp .lss (t 12) (i 0)),o 14 (.mv (t 13)),
 n 15 14 (.mv (t 1)),
 n 16 14 (.mv (t 0)),
 n 17 14 (.cmp .geq (t 15) (t 16)),o 18 (.pick (t 14) (b true) (t 17))]
def f168r4 : LS := [o 4 (.mv (i 0)),o 5 (.mv (b false))]
def f168r5 : LS := [o 19 (.mv (t 1)),o 4 (.mv (t 19)),o 5 (.mv (b true))]
def f168 : SCode := (.seq (.ops f168r0) (.seq (.seq (.ops f168r1) (.cond (t 7) (.ops f168r2) .skip)) (.seq (.seq (.ops f168r3) (.cond (t 18) (.seq (.ops f168r4) .ret) .skip)) (.seq (.ops f168r5) .ret))))
theorem f168_calls : Sound Tryz.prog 168 20 f168 [.t 4, .t 5] := sound_of mixed Tryz.func168 rfl (by kernel_rfl) (by kernel_rfl) (by kernel_rfl)
def f169r0 : LS := [o 6 (.mv (i 0)),o 7 (.mv (i 0))]
def f169r1 : LS := [o 9 (.mv (t 0)),o 10 (.cmp .lss (t 9) (i 1))]
def f169r2 : LS := [o 6 (.mv (i 0)),o 7 (.mv (i 0))]
def f169r3 : LS := [o 11 (.mv (t 0)),o 8 (.mv (t 11))]
def f169r4 : LS := [o 12 (.mv (t 1)),o 13 (.cmp .lss (t 12) (i 0))]
def f169r5 : LS := [o 14 (.mv (t 1)),o 15 (.mv (t 8)),o 16 (.ar .add (t 14) (t 15)),o 17 (.mx (i 0) (t 16)),o 1 (.mv (t 17))]
def f169r6 : LS := [o 18 (.mv (t 2)),o 19 (.cmp .lss (t 18) (i 0))]
def f169r7 : LS := [o 20 (.mv (t 2)),o 21 (.mv (t 8)),o 22 (.ar .add (t 20) (t 21)),o 2 (.mv (t 22))]
def f169r8 : LS := [o 23 (.mv (t 2)),o 24 (.mv (t 8)),o 25 (.ar .sub (t 24) (i 1)),o 26 (.mn (t 23) (t 25)),o 2 (.mv (t 26))]
def f169r9 : LS := [o 27 (.mv (t 1)),o 28 (.mv (t 2)),o 29 (.cmp .gtr (t 27) (t 28))]
def f169r10 : LS := [o 6 (.mv (i 0)),o 7 (.mv (i 0))]
def f169r11 : LS := [o 30 (.mv (t 1)),o 31 (.mv (t 2)),o 32 (.ar .add (t 31) (i 1)),o 6 (.mv (t 30)),o 7 (.mv (t 32))]
def f169 : SCode := (.seq (.ops f169r0) (.seq (.seq (.ops f169r1) (.cond (t 10) (.seq (.ops f169r2) .ret) .skip)) (.seq (.ops f169r3) (.seq (.seq (.ops f169r4) (.cond (t 13) (.ops f169r5) .skip)) (.seq (.seq (.ops f169r6) (.cond (t 19) (.ops f169r7) .skip)) (.seq (.ops f169r8) (.seq (.seq (.ops f169r9) (.cond (t 29) (.seq (.ops f169r10) .ret) .skip)) (.seq (.ops f169r11) .ret))))))))
theorem f169_calls : Sound Tryz.prog 169 33 f169 [.t 6, .t 7] := sound_of mixed Tryz.func169 rfl (by kernel_rfl) (by kernel_rfl) (by kernel_rfl)
def f170r0 : LS := [o 4 (.new [(.int .i64 0), (.int .i64 0), (.string ⟨#[]⟩), (.slice none 0 0)])]
def f170r1 : LS := [o 10 (.build [(.int .i64 0), (.int .i64 0), (.string ⟨#[]⟩), (.slice none 0 0)] [(0, 1)] [(i 5)]),o 5 (.new [(.int .i64 0), (.int .i64 0), (.string ⟨#[]⟩), (.slice none 0 0)]),
 q (.st 4 (t 5) (t 10))]
def f170r2 : LS := [o 11 (.mv (t 0)),o 12 (.len (t 11)),o 13 (.mv (i 0))]
def f170r3 : LS := [o 14 (.cmp .lss (t 13) (t 12))]
def f170r4 : LS := [o 15 (.ixs 1 (t 11) (t 13)),o 16 (.ld1 (t 15)),o 7 (.mv (t 16))]
def f170r5 : LS := [o 17 (.mv (t 1)),o 18 (.mv (t 7)),o 19 (.callv (t 17) [(t 18)]),o 20 (.len (t 19)),o 21 (.mv (i 0))]
def f170r6 : LS := [o 22 (.cmp .lss (t 21) (t 20))]
def f170r7 : LS := [o 23 (.ixs 1 (t 19) (t 21)),o 24 (.ld1 (t 23)),o 9 (.mv (t 24))]
def f170r8 : LS := [o 25 (.fa 3 (t 5)),o 26 (.ld1 (t 25)),o 27 (.mv (t 9)),o 28 (.callq 158 [(t 27)]),o 29 (.bslice [(.int .i64 0), (.int .i64 0), (.string ⟨#[]⟩), (.slice none 0 0)] 1 [(0, 4)] [(t 28)]),o 30 (.app 4 56 [(.int .i64 0), (.int .i64 0), (.string ⟨#[]⟩), (.slice none 0 0)] (t 26) (t 29)),o 31 (.fa 3 (t 5)),
 q (.st 1 (t 31) (t 30))]
def f170r9 : LS := [o 32 (.ar .add (t 21) (i 1)),o 21 (.mv (t 32))]
def f170l10 : SCode := (.seq (.ops f170r6) (.seq (.cond (t 22) .skip (.exit 2)) (.seq (.block 3 (.seq (.ops f170r7) (.ops f170r8))) (.ops f170r9))))
def f170r11 : LS := [o 33 (.ar .add (t 13) (i 1)),o 13 (.mv (t 33))]
def f170l12 : SCode := (.seq (.ops f170r3) (.seq (.cond (t 14) .skip (.exit 0)) (.seq (.block 1 (.seq (.ops f170r4) (.seq (.ops f170r5) (.block 2 (.loop f170l10))))) (.ops f170r11))))
def f170r13 : LS := [o 34 (.ldn 4 (t 5)),
 q (.st 4 (t 4) (t 34))]
def f170 : SCode := (.seq (.ops f170r0) (.seq (.ops f170r1) (.seq (.seq (.ops f170r2) (.block 0 (.loop f170l12))) (.seq (.ops f170r13) .ret))))
theorem f170_calls : Sound Tryz.prog 170 35 f170 [.cn 4 4] := sound_of mixed Tryz.func170 rfl (by kernel_rfl) (by kernel_rfl) (by kernel_rfl)
def f171r0 : LS := [o 2 (.mv (.const (.slice none 0 0)))]
def f171r1 : LS := [o 3 (.mv (t 0)),o 4 (.bslice [(.string ⟨#[]⟩)] 1 [(0, 1)] [(t 3)]),o 2 (.mv (t 4))]
def f171 : SCode := (.seq (.ops f171r0) (.seq (.ops f171r1) .ret))
theorem f171_calls : Sound Tryz.prog 171 5 f171 [.t 2] := sound_of mixed Tryz.func171 rfl (by kernel_rfl) (by kernel_rfl) (by kernel_rfl)
def f172r0 : LS := [o 4 (.mv (b false))]
def f172r1 : LS := [o 8 (.mv (t 0)),o 9 (.nilck (t 8)),o 10 (.fa 0 (t 9)),o 11 (.fa 3 (t 10)),o 12 (.ld1 (t 11)),o 13 (.mv (t 1)),o 14 (.call 235 [(t 12), (t 13)]),o 7 (.mv (t 14)),o 15 (.ext (t 7) 0),o 16 (.ext (t 7) 1),o 5 (.mv (t 15)),o 6 (.mv (t 16))]
def f172r2 : LS := [o 17 (.mv (t 6)),o 4 (.mv (t 17))]
def f172 : SCode := (.seq (.ops f172r0) (.seq (.ops f172r1) (.seq (.ops f172r2) .ret)))
theorem f172_calls : Sound Tryz.prog 172 18 f172 [.t 4] := sound_of mixed Tryz.func172 rfl (by kernel_rfl) (by kernel_rfl) (by kernel_rfl)
def f173r0 : LS := [o 2 (.new [(.int .i64 0), (.int .i64 0), (.string ⟨#[]⟩), (.slice none 0 0)])]
def f173r1 : LS := [o 3 (.mv (t 0))]
def f173r2 : LS := [o 4 (.call 156 [(i 1)]),
 q (.st 4 (t 2) (t 4))]
def f173r3 : LS := [o 5 (.call 156 [(i 0)]),
 q (.st 4 (t 2) (t 5))]
def f173 : SCode := (.seq (.ops f173r0) (.seq (.seq (.ops f173r1) (.cond (t 3) (.seq (.ops f173r2) .ret) .skip)) (.seq (.ops f173r3) .ret)))
theorem f173_calls : Sound Tryz.prog 173 6 f173 [.cn 2 4] := sound_of mixed Tryz.func173 rfl (by kernel_rfl) (by kernel_rfl) (by kernel_rfl)
def f175r0 : LS := [o 5 (.mv (t 1)),o 4 (.mv (t 5))]
def f175r1 : LS := [o 6 (.mv (t 4)),o 7 (.mv (t 0)),o 8 (.nilck (t 7)),o 9 (.fa 11 (t 8)),o 10 (.ld1 (t 9)),o 11 (.len (t 10)),o 12 (.cmp .lss (t 6) (t 11))]
def f175r2 : LS := [o 15 (.mv (t 0)),o 16 (.mv (t 4)),o 17 (.call 163 [(t 15), (t 16)])]
def f175r3 : LS := [o 13 (.mv (t 4)),o 14 (.ar .add (t 13) (i 2)),o 4 (.mv (t 14))]
def f175l4 : SCode := (.seq (.seq (.ops f175r1) (.cond (t 12) .skip (.exit 0))) (.seq (.block 1 (.ops f175r2)) (.ops f175r3)))
def f175 : SCode := (.seq (.ops f175r0) (.block 0 (.loop f175l4)))
theorem f175_calls : Sound Tryz.prog 175 18 f175 [] := sound_of mixed Tryz.func175 rfl (by kernel_rfl) (by kernel_rfl) (by kernel_rfl)
def f176r0 : LS := [o 3 (.mv (b false))]
def f176r1 : LS := [o 7 (.ld1 (t 1)),o 8 (.mv (t 0)),o 9 (.call 177 [(t 7), (t 8)]),o 6 (.mv (t 9)),o 10 (.ext (t 6) 0),o 11 (.ext (t 6) 1),o 4 (.mv (t 10)),o 5 (.mv (t 11))]
def f176r2 : LS := [o 12 (.mv (t 5)),o 3 (.mv (t 12))]
def f176 : SCode := (.seq (.ops f176r0) (.seq (.ops f176r1) (.seq (.ops f176r2) .ret)))
theorem f176_calls : Sound Tryz.prog 176 13 f176 [.t 3] := sound_of mixed Tryz.func176 rfl (by kernel_rfl) (by kernel_rfl) (by kernel_rfl)
def f177r0 : LS := [o 4 (.mv (i 0)),o 5 (.mv (b false))]
def f177r1 : LS := [o 9 (.mv (t 0)),o 10 (.nilck (t 9)),o 11 (.fa 0 (t 10)),o 12 (.fa 4 (t 11)),o 13 (.ld1 (t 12)),o 14 (.call 179 [(t 13), (.const (.slice none 0 0))]),o 8 (.mv (t 14)),o 15 (.ext (t 8) 0),o 16 (.ext (t 8) 1),o 6 (.mv (t 15)),o 7 (.mv (t 16))]
def f177r2 : LS := [o 17 (.mv (t 6)),o 18 (.mv (t 1)),o 19 (.call 237 [(t 17), (t 18)]),o 20 (.ext (t 19) 0),o 21 (.ext (t 19) 1),o 4 (.mv (t 20)),o 5 (.mv (t 21))]
def f177 : SCode := (.seq (.ops f177r0) (.seq (.ops f177r1) (.seq (.ops f177r2) .ret)))
theorem f177_calls : Sound Tryz.prog 177 22 f177 [.t 4, .t 5] := sound_of mixed Tryz.func177 rfl (by kernel_rfl) (by kernel_rfl) (by kernel_rfl)
def f178r0 : LS := [o 3 (.mv (b false))]
def f178r1 : LS := [o 7 (.ld1 (t 1)),o 8 (.mv (t 0)),o 9 (.call 177 [(t 7), (t 8)]),o 6 (.mv (t 9)),o 10 (.ext (t 6) 0),o 11 (.ext (t 6) 1),o 4 (.mv (t 10)),o 5 (.mv (t 11))]
def f178r2 : LS := [o 12 (.mv (t 5)),o 3 (.mv (t 12))]
def f178 : SCode := (.seq (.ops f178r0) (.seq (.ops f178r1) (.seq (.ops f178r2) .ret)))
theorem f178_calls : Sound Tryz.prog 178 13 f178 [.t 3] := sound_of mixed Tryz.func178 rfl (by kernel_rfl) (by kernel_rfl) (by kernel_rfl)
def f181r0 : LS := [o 4 (.new [(.int .i64 0), (.int .i64 0), (.string ⟨#[]⟩), (.slice none 0 0)])]
def f181r1 : LS := [o 10 (.build [(.int .i64 0), (.int .i64 0), (.string ⟨#[]⟩), (.slice none 0 0)] [(0, 1)] [(i 5)]),o 5 (.new [(.int .i64 0), (.int .i64 0), (.string ⟨#[]⟩), (.slice none 0 0)]),
 q (.st 4 (t 5) (t 10))]
def f181r2 : LS := [o 11 (.mv (t 0)),o 12 (.len (t 11)),o 13 (.mv (i 0))]
def f181r3 : LS := [o 14 (.cmp .lss (t 13) (t 12))]
def f181r4 : LS := [o 15 (.ixs 2 (t 11) (t 13)),o 16 (.ldn 2 (t 15)),o 7 (.new [(.string ⟨#[]⟩), (.int .i64 0)]),
 q (.st 2 (t 7) (t 16))]
def f181r5 : LS := [o 17 (.mv (t 1)),o 18 (.ldn 2 (t 7)),o 19 (.callv (t 17) [(t 18)]),o 20 (.len (t 19)),o 21 (.mv (i 0))]
def f181r6 : LS := [o 22 (.cmp .lss (t 21) (t 20))]
def f181r7 : LS := [o 23 (.ixs 1 (t 19) (t 21)),o 24 (.ld1 (t 23)),o 9 (.mv (t 24))]
def f181r8 : LS := [o 25 (.fa 3 (t 5)),o 26 (.ld1 (t 25)),o 27 (.mv (t 9)),o 28 (.callq 158 [(t 27)]),o 29 (.bslice [(.int .i64 0), (.int .i64 0), (.string ⟨#[]⟩), (.slice none 0 0)] 1 [(0, 4)] [(t 28)]),o 30 (.app 4 56 [(.int .i64 0), (.int .i64 0), (.string ⟨#[]⟩), (.slice none 0 0)] (t 26) (t 29)),o 31 (.fa 3 (t 5)),
 q (.st 1 (t 31) (t 30))]
def f181r9 : LS := [o 32 (.ar .add (t 21) (i 1)),o 21 (.mv (t 32))]
def f181l10 : SCode := (.seq (.ops f181r6) (.seq (.cond (t 22) .skip (.exit 2)) (.seq (.block 3 (.seq (.ops f181r7) (.ops f181r8))) (.ops f181r9))))
def f181r11 : LS := [o 33 (.ar .add (t 13) (i 1)),o 13 (.mv (t 33))]
def f181l12 : SCode := (.seq (.ops f181r3) (.seq (.cond (t 14) .skip (.exit 0)) (.seq (.block 1 (.seq (.ops f181r4) (.seq (.ops f181r5) (.block 2 (.loop f181l10))))) (.ops f181r11))))
def f181r13 : LS := [o 34 (.ldn 4 (t 5)),
 q (.st 4 (t 4) (t 34))]
def f181 : SCode := (.seq (.ops f181r0) (.seq (.ops f181r1) (.seq (.seq (.ops f181r2) (.block 0 (.loop f181l12))) (.seq (.ops f181r13) .ret))))
theorem f181_calls : Sound Tryz.prog 181 35 f181 [.cn 4 4] := sound_of mixed Tryz.func181 rfl (by kernel_rfl) (by kernel_rfl) (by kernel_rfl)
def f183r0 : LS := [o 1 (.box (t 0)),o 2 (.mv (.const (.slice none 0 0)))]
def f183r1 : LS := [o 3 (.fa 0 (t 1)),o 4 (.ld1 (t 3)),o 5 (.bslice [(.string ⟨#[]⟩)] 1 [(0, 1)] [(t 4)]),o 2 (.mv (t 5))]
def f183 : SCode := (.seq (.ops f183r0) (.seq (.ops f183r1) .ret))
theorem f183_calls : Sound Tryz.prog 183 6 f183 [.t 2] := sound_of mixed Tryz.func183 rfl (by kernel_rfl) (by kernel_rfl) (by kernel_rfl)
def f228r0 : LS := [o 4 (.mv (b false))]
def f228r1 : LS := [o 5 (.ld1 (t 1)),o 6 (.mv (t 0)),o 7 (.look .str (.int .i64 0) false (t 5) (t 6)),o 8 (.ar .add (t 7) (i 1)),
 q (.mup .str (t 5) (t 6) (t 8))]
def f228r2 : LS := [o 9 (.ld1 (t 1)),o 10 (.mv (t 0)),o 11 (.look .str (.int .i64 0) false (t 9) (t 10)),o 12 (.cmp .eql (t 11) (i 1)),o 13 (.mv (t 12)),
 g 14 13 (.ld1 (t 2)),
 g 15 13 (.mv (t 0)),
 g 16 13 (.callv (t 14) [(t 15)]),
 g 17 13 (.un .not (t 16)),o 18 (.pick (t 13) (t 17) (b false)),o 4 (.mv (t 18))]
def f228 : SCode := (.seq (.ops f228r0) (.seq (.ops f228r1) (.seq (.ops f228r2) .ret)))
theorem f228_calls : Sound Tryz.prog 228 19 f228 [.t 4] := sound_of mixed Tryz.func228 rfl (by kernel_rfl) (by kernel_rfl) (by kernel_rfl)
def f230r0 : LS := [o 2 (.box (t 0)),o 3 (.mv (b false))]
def f230r1 : LS := [o 4 (.fa 0 (t 2)),o 5 (.ld1 (t 4)),o 6 (.ld1 (t 1)),o 7 (.cmp .eql (t 5) (t 6)),o 3 (.mv (t 7))]
def f230 : SCode := (.seq (.ops f230r0) (.seq (.ops f230r1) .ret))
theorem f230_calls : Sound Tryz.prog 230 8 f230 [.t 3] := sound_of mixed Tryz.func230 rfl (by kernel_rfl) (by kernel_rfl) (by kernel_rfl)
def f232r0 : LS := [o 3 (.mv (b false))]
def f232r1 : LS := [o 4 (.ld1 (t 1)),o 5 (.mv (t 0)),o 6 (.callv (t 4) [(t 5)]),o 7 (.un .not (t 6)),o 3 (.mv (t 7))]
def f232 : SCode := (.seq (.ops f232r0) (.seq (.ops f232r1) .ret))
theorem f232_calls : Sound Tryz.prog 232 8 f232 [.t 3] := sound_of mixed Tryz.func232 rfl (by kernel_rfl) (by kernel_rfl) (by kernel_rfl)
def f233r0 : LS := [o 3 (.box (t 1))]
def f233r1 : LS := [o 4 (.mv (t 0)),o 5 (.nilck (t 4)),o 6 (.fa 10 (t 5)),o 7 (.ld1 (t 6)),o 8 (.fa 1 (t 3)),
 q (.st 1 (t 8) (t 7))]
def f233r2 : LS := [o 9 (.mv (t 0)),o 10 (.mv (t 0)),o 11 (.nilck (t 10)),o 12 (.fa 12 (t 11)),o 13 (.ld1 (t 12)),o 14 (.ldn 5 (t 3)),o 15 (.bslice [(.int .i64 0), (.string ⟨#[]⟩), (.string ⟨#[]⟩), (.string ⟨#[]⟩), (.int .i64 0)] 1 [(0, 5)] [(t 14)]),o 16 (.app 5 64 [(.int .i64 0), (.string ⟨#[]⟩), (.string ⟨#[]⟩), (.string ⟨#[]⟩), (.int .i64 0)] (t 13) (t 15)),o 17 (.nilck (t 9)),o 18 (.fa 12 (t 17)),
 q (.st 1 (t 18) (t 16))]
def f233 : SCode := (.seq (.ops f233r0) (.seq (.ops f233r1) (.ops f233r2)))
theorem f233_calls : Sound Tryz.prog 233 19 f233 [] := sound_of mixed Tryz.func233 rfl (by kernel_rfl) (by kernel_rfl) (by kernel_rfl)
end Go.Proofs.YtjnijlnmbjjgpaaGreatDoor.C
namespace Go.Proofs.YtjnijlnmbjjgpaaGreatDoor
open Go Go.Sx C
def stop9 (why : ByteArray) : List PanicEntry := [{ v := .iface 92 (.agg #[.string why]), recovered := false }]
def Out9 (R : Value → Heap → Prop) (E : ByteArray → Heap → Prop) : Ending → Heap → Prop
 |.returned v, h => R v h
 |.panicked ch, h => ∃ why, ch = stop9 why ∧ E why h
 |.outgrown, _ => False
theorem call_out9 {P : Program} {f : Nat} {vs : List Value} {h : Heap} {Q : Value → Heap → Prop} {E : ByteArray → Heap → Prop} {K : Value → Heap → Prop} {Qp : List PanicEntry → Heap → Prop} (hc : CallsH P f vs h (Out9 Q E))
  (hk : ∀ v h', Q v h' → K v h') (he : ∀ why h', E why h' → Qp (stop9 why) h') : CallsH P f vs h (after K Qp) :=
 hc.mono fun e h' hr => by
  cases e with
  |returned v => exact hk _ _ hr
  |panicked ch => obtain ⟨why, rfl, hw⟩ := hr; exact he _ _ hw
  |outgrown => exact hr.elim
theorem must9_calls {h : Heap} {b : Bool} {s : ByteArray} : CallsH Tryz.prog 150 [.bool b, .string s] h (Out9 (fun _ h' => b = true ∧ h' = h) (fun why h' => b = false ∧ why = s ∧ h' = h)) := by
 refine f150_calls (by simp) ?_
 cases b with
 |true => exact ⟨rfl, rfl⟩
 |false => exact ⟨s, rfl, rfl, rfl, rfl⟩
theorem must9_yes {h : Heap} {s : ByteArray} {K : Value → Heap → Prop} {Qp : List PanicEntry → Heap → Prop} (hok : ∀ v, K v h) : CallsH Tryz.prog 150 [.bool true, .string s] h (after K Qp) :=
 call_out9 must9_calls (fun v h' hr => by obtain ⟨_, e⟩ := hr; have e := e.symm; subst e; exact hok v) (fun v h' hr => by obtain ⟨h2, _⟩ := hr; cases h2)
theorem must9_no {h : Heap} {s : ByteArray} {K : Value → Heap → Prop} {Qp : List PanicEntry → Heap → Prop} (hbad : Qp (stop9 s) h) : CallsH Tryz.prog 150 [.bool false, .string s] h (after K Qp) :=
 call_out9 must9_calls (fun v h' hr => by obtain ⟨h2, _⟩ := hr; cases h2) (fun v h' hr => by obtain ⟨_, rfl, e⟩ := hr; have e := e.symm; subst e; exact hbad)
structure P9 (h0 : Heap) (kb sb mb c : Nat) (m : List KI) (S : Space) (av : Value) (A : List ByteArray) : Prop where
 kr : KR h0 kb sb mb c m
 so : Sorted m S
 args : ∀ h', Chg [] h0 h' → SL encS h' av A
def Tn (h0 h : Heap) (e : En) (h' : Heap) (e' : En) : Prop := As h0 h' e' ∧ Sx.Own e h e' h'
section
variable {h0 h h1 h' : Heap} {ab kb sb mb c : Nat} {now lo hi kd items : Int} {av lv pv lw rv : Value} {key key2 s : ByteArray} {t : Thing} {is : Bool} {A : List ByteArray} {L F : List Eff} {m : List KI} {S : Space} {M : List En} {T : List Nat} {e e' : En}
theorem P9.argF (p : P9 h0 kb sb mb c m S av A) (hi : 0 < A.length) : ∃ b o cc, av = .slice (some ⟨b, o, none⟩) A.length cc := by
 have hs := p.args h0 (Chg.refl _)
 obtain ⟨a, cc, rfl, hcc⟩ := hs.form
 obtain ⟨b, o, rfl⟩ := hs.addr hi
 exact ⟨b, o, cc, rfl⟩
theorem P9.argN (p : P9 h0 kb sb mb c m S av A) : ∃ a cc, av = .slice a A.length cc := by
 obtain ⟨a, cc, rfl, hcc⟩ := (p.args h0 (Chg.refl _)).form
 exact ⟨a, cc, rfl⟩
theorem P9.ix {i : Int} {b o n cc : Nat} {s : ByteArray} {K : Value → Prop} (p : P9 h0 kb sb mb c m S (.slice (some ⟨b, o, none⟩) n cc) A) (hc : Chg [] h0 h1) (j : Nat) (e : i = j) (hs : A[j]? = some s) (hk : K (.string s)) :
  0 ≤ i ∧ i < (n : Int) ∧ ∃ v, cell h1 b (o + i.toNat * 1) = some v ∧ K v := by
 subst e
 have hj := (List.getElem?_eq_some_iff.1 hs).1
 have hcs := (p.args h1 hc).cells encS_len hs
 have hn := (p.args h1 hc).len.1
 refine ⟨by omega, by omega, _, ?_, hk⟩
 have := hcs 0 _ rfl
 simpa using this
def Sub9 (h0 h : Heap) (e : En) (R : Value → En → Prop) (B : ByteArray → Prop) : Ending → Heap → Prop :=
 Out9 (fun v h' => ∃ e', R v e' ∧ Tn h0 h e h' e') (fun why h' => B why ∧ Chg e.fp h h')
theorem sub9_go {P : Program} {f i : Nat} {vs : List Value} {e0 : En} {R : Value → En → Prop} {B : ByteArray → Prop} {K : Value → Heap → Prop} {Qp : List PanicEntry → Heap → Prop} (x : As h0 h e0) (w : St e0.fp h h1 M) (hi : M[i]? = some e)
  (hc : As h0 h1 e → CallsH P f vs h1 (Sub9 h0 h1 e R B)) (hok : ∀ v h' e', R v e' → St e0.fp h h' (M.set i e') → K v h') (hbad : ∀ why h', B why → Chg e0.fp h h' → Qp (stop9 why) h') : CallsH P f vs h1 (after K Qp) :=
 call_out9 (hc (x.out w i hi).1) (fun v h' ⟨e', hR, _, o⟩ => hok v h' e' hR (w.own i hi o)) (fun why h' ⟨hB, c⟩ => hbad why h' hB (w.gone i hi c (fun _ hb => .inl hb)).chg)
theorem Tn.refl (x : As h0 h e) (hc : Chg [] h h') : Tn h0 h e h' e := ⟨x.ext hc, Sx.Own.refl x.at_ hc⟩
theorem many9_calls (p : P9 h0 kb sb mb c m S av A) (hlo : 1 ≤ lo) (x : As h0 h (cE ab kb now av key t is pv lw rv lv L)) : CallsH Tryz.prog 149 [ptr ab, .int .i64 lo, .int .i64 hi] h
  (Sub9 h0 h (cE ab kb now av key t is pv lw rv lv L) (fun _ e' => (lo ≤ A.length ∧ (A.length : Int) ≤ hi) ∧ ∃ k0, A[0]? = some k0 ∧ e' = cE ab kb now av k0 t is pv lw rv lv L)
   (fun why => ¬ (lo ≤ A.length ∧ (A.length : Int) ≤ hi) ∧ why = wArgs)) := by
 obtain ⟨a, cc, rfl⟩ := p.argN
 refine f149_calls (by simp) ?_
 have w := x.st
 refine w.ldc 0 rfl rfl ?_
 refine Ai rfl (Ai (fun h1 => ?_) (fun h1 => ?_))
 ·refine w.ldc 0 rfl rfl ?_
  refine Ai rfl (Ai (fun h2 => ?_) (fun h2 => ?_))
  ·refine must9_yes fun _ => ?_
   obtain ⟨b, o, cc2, e⟩ := p.argF (by omega)
   obtain ⟨rfl, rfl⟩ : a = some ⟨b, o, none⟩ ∧ cc = cc2 := by cases e; exact ⟨rfl, rfl⟩
   have hA0 : A[0]? = some A[0] := List.getElem?_eq_getElem (by omega)
   refine w.ldc 0 rfl rfl ?_
   refine p.ix (x.base w) 0 rfl hA0 ?_
   refine w.ckey 0 rfl fun h2 w => ?_
   exact ⟨_, ⟨⟨by omega, by omega⟩, A[0], hA0, rfl⟩, x.out w 0 rfl⟩
  ·exact must9_no ⟨_, rfl, ⟨fun hh => by omega, rfl⟩, w.chg⟩
 ·exact must9_no ⟨_, rfl, ⟨fun hh => by omega, rfl⟩, w.chg⟩
theorem num9_calls {j : Nat} (p : P9 h0 kb sb mb c m S av A) (x : As h0 h (cE ab kb now av key t is pv lw rv lv L)) (hl : LaidN h0) (hj : A[j]? = some s) (hs : s.size < 281474976710656) : CallsH Tryz.prog 163 [ptr ab, .int .i64 j] h
  (Sub9 h0 h (cE ab kb now av key t is pv lw rv lv L) (fun r e' => ∃ n, numOf s = some n ∧ r = .int .i64 n ∧ e' = cE ab kb now av key t is pv lw rv lv L) (fun why => numOf s = none ∧ why = wNum)) := by
 obtain ⟨b, o, cc, rfl⟩ := p.argF (by have := (List.getElem?_eq_some_iff.1 hj).1; omega)
 refine f163_calls (by simp) ?_
 have w := x.st
 refine w.ldc 0 rfl rfl ?_
 refine p.ix (x.base w) j rfl hj ?_
 obtain ⟨⟨l⟩⟩ := s
 rw [show numOf ⟨⟨l⟩⟩ = Num.num l from rfl]
 obtain ⟨u, hu⟩ : ∃ u, u = Num.num l := ⟨_, rfl⟩
 refine call_ret (bnum_calls (hl.ext x.chg) hs) ?_
 rintro _ h1 ⟨rfl, c1⟩
 rw [← hu]
 cases u with
 |none => exact must9_no ⟨_, rfl, ⟨rfl, rfl⟩, c1.mono (by simp)⟩
 |some n => exact must9_yes fun _ => ⟨_, ⟨n, rfl, rfl, rfl⟩, Tn.refl x c1⟩
end
end Go.Proofs.YtjnijlnmbjjgpaaGreatDoor
