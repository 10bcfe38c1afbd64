/-
  Slices of one's own, cut, written, grown in the middle; small words.
-/
import Derived.Test.YtomcocbcajidcaaGreatDoorSxW
import Derived.Laws.Externs
import Derived.Lib.Overlaps
namespace Go.Sx
open Go

variable {α : Type} {enc : α → List Value} {size : Nat}

theorem Put.refl {h : Heap} {b : Nat} {l : List Value} (hb : Blk h b l) : Put h h b l := ⟨hb, rfl, fun _ _ => rfl, fun _ h => h⟩
theorem Put.trans {h h1 h2 : Heap} {b : Nat} {l l' : List Value} (p : Put h h1 b l) (q : Put h1 h2 b l') : Put h h2 b l' :=
  ⟨q.blk, by rw [q.size, p.size], fun k hk => by rw [q.old k hk, p.old k hk], fun t ht => q.ty t (p.ty t ht)⟩

theorem splice_at (A B C ys : List Value) (hl : ys.length = B.length) : splice (A ++ (B ++ C)) A.length ys = A ++ (ys ++ C) := by
  rw [splice_mid A (B ++ C) ys (by simp [hl])]
  rw [hl, List.drop_left]

/-- Cells in the middle of a block, written. -/
theorem wr_at {h : Heap} {b o : Nat} (A B C : List Value) {ys : List Value} {K : Heap → Prop} (hb : Blk h b (A ++ (B ++ C))) (ho : o = A.length) (hl : ys.length = B.length) (h1 : ∀ u ∈ ys, u.oneCell' = true)
    (hk : ∀ h', Put h h' b (A ++ (ys ++ C)) → K h') : wrP h K (some ⟨b, o, none⟩) ys := by
  subst ho
  refine ⟨fun e => ?_, fun _ => ?_⟩
  · subst e
    have e : B = [] := by simpa using hl.symm
    subst e
    exact hk h (Put.refl hb)
  · refine ⟨_, hb, by simp [hl], h1, fun h' hp => ?_⟩
    rw [splice_at A B C ys hl] at hp
    exact hk h' hp

theorem enc_ones (h1 : ∀ x, ∀ u ∈ enc x, u.oneCell' = true) (l : List α) : ∀ u ∈ l.flatMap enc, u.oneCell' = true := by
  intro u hu
  obtain ⟨x, _, hx⟩ := List.mem_flatMap.1 hu
  exact h1 x u hx

theorem split_at (l : List α) (i : Nat) : l.flatMap enc = (l.take i).flatMap enc ++ (l.drop i).flatMap enc := by
  rw [← List.flatMap_append, List.take_append_drop]

theorem take_len (hsz : ∀ x, (enc x).length = size) (l : List α) (i : Nat) (h : i ≤ l.length) : ((l.take i).flatMap enc).length = i * size := by
  rw [flatMap_len hsz, List.length_take, Nat.min_eq_left h]

theorem drop_len (hsz : ∀ x, (enc x).length = size) (l : List α) (i : Nat) : ((l.drop i).flatMap enc).length = (l.length - i) * size := by
  rw [flatMap_len hsz, List.length_drop]

/-- What an own slice is, opened. -/
theorem OL.open {h : Heap} {a : Option Addr} {n c : Nat} {l : List α} (ho : OL enc size h (.slice a n c) l) : n = l.length ∧ ((a = none ∧ l = [] ∧ c = 0) ∨ ∃ b, a = some ⟨b, 0, none⟩ ∧ l.length ≤ c ∧ ∃ rest, Blk h b (l.flatMap enc ++ rest) ∧ (l.flatMap enc ++ rest).length = c * size) := by
  obtain ⟨a1, c1, he, hm⟩ := ho
  cases he
  refine ⟨rfl, ?_⟩
  split at hm
  · exact .inl ⟨rfl, hm.1, hm.2⟩
  · rename_i b o
    obtain ⟨rfl, h2, rest, h3, h4⟩ := hm
    exact .inr ⟨b, rfl, h2, rest, h3, h4⟩
  · exact hm.elim

theorem OL.mk {h : Heap} {b n c : Nat} {l : List α} {rest : List Value} (hn : n = l.length) (hc : l.length ≤ c) (hb : Blk h b (l.flatMap enc ++ rest)) (hl : (l.flatMap enc ++ rest).length = c * size) : OL enc size h (.slice (some ⟨b, 0, none⟩) n c) l := by
  subst hn
  exact ⟨_, c, rfl, rfl, hc, rest, hb, hl⟩

theorem OL.form {h : Heap} {v : Value} {l : List α} (ho : OL enc size h v l) : ∃ a c, v = .slice a l.length c ∧ l.length ≤ c := ho.sl.form

/-- A slice that reads, from a block. -/
theorem SL.mk {h : Heap} {b o n c : Nat} {l : List α} (A C : List Value) (hb : Blk h b (A ++ (l.flatMap enc ++ C))) (ho : o = A.length) (hn : n = l.length) (hc : l.length ≤ c) : SL enc h (.slice (some ⟨b, o, none⟩) n c) l := by
  subst ho hn
  refine ⟨_, c, rfl, hc, fun i v hv => cell_blk hb ?_⟩
  have hlt := (List.getElem?_eq_some_iff.1 hv).1
  rw [List.getElem?_append_right (by omega), Nat.add_sub_cancel_left, List.getElem?_append_left hlt]
  exact hv

theorem src_of {h : Heap} {b o n : Nat} (A ys C : List Value) (hb : Blk h b (A ++ (ys ++ C))) (ho : o = A.length) : Src h (some ⟨b, o, none⟩) n ys := by
  subst ho
  intro i v hv
  refine cell_blk hb ?_
  have hlt := (List.getElem?_eq_some_iff.1 hv).1
  rw [List.getElem?_append_right (by omega), Nat.add_sub_cancel_left, List.getElem?_append_left hlt]
  exact hv

theorem SL.src {h : Heap} {a : Option Addr} {n c : Nat} {l : List α} (hs : SL enc h (.slice a n c) l) : Src h a n (l.flatMap enc) := by
  obtain ⟨a', c', he, _, h2⟩ := hs
  injection he with e1 e2 e3
  subst e1 e2 e3
  exact h2

/-- Two slices in two blocks. -/
theorem ov_ext {P : Program} {f : Nat} {fn : Func} {tS tR e : TypeId} {size : Nat} (hf : P.funcs[f]? = some fn) (hname : (fn.name == "runtime.NumGoroutine") = false) (hbn : fn.body.isNone = true) (hn : Extern.findNext fn = none)
    (he : Extern.find fn = some (Extern.SlicesOverlaps.overlaps #[tS, tS] #[tR])) (ht : P.underlying tS = some (.slice e)) (hz : szOf P e = some size) {h : Heap} {vb b o o' n c n' c' : Nat} {l l' : List Value}
    (hv : Blk h vb l) (hb : Blk h b l') (hl : l' ≠ []) (hne : vb ≠ b) :
    ExtH P f [.slice (some ⟨vb, o, none⟩) n c, .slice (some ⟨b, o', none⟩) n' c'] h fun v h' => v = .bool false ∧ h' = h := by
  intro w hw
  subst hw
  obtain ⟨e1, h1⟩ := hv
  obtain ⟨e2, h2⟩ := hb
  have key := Go.Lib.run_overlaps_apart (P := P) w tS tR e ht size (fun w => run_sizeOf' hz w) ⟨vb, o, none⟩ ⟨b, o', none⟩ n c n' c' hne e1 e2 l.length l'.length
    (by simp [World.shape?, h1]) (by simp [World.shape?, h2]) (fun h => hl (List.length_eq_zero_iff.1 h)) (by simp [World.frozen?, h1]) (by simp [World.frozen?, h1])
  refine ⟨.bool false, w, ?_, ⟨rfl, rfl⟩, rfl, rfl, rfl⟩
  rw [run_callFunc_extern hf hname hbn hn he, key]
  rfl

end Go.Sx
