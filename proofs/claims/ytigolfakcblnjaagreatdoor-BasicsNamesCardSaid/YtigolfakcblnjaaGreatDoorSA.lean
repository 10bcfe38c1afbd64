/-
  Layer 8: replies as they stand in memory; whether two are the same.
-/
import Derived.Test.YtigolfakcblnjaaGreatDoorCode
import Derived.Test.YtigolfakcblnjaaGreatDoorSxX
namespace Go.Proofs.YtigolfakcblnjaaGreatDoor
open Go Go.Sx Go.Proofs.YtigolfakcblnjaaGreatDoor.C

/-- A reply: kind, number, text, its slice, and what that reads as. -/
inductive RT where
  | mk (k i : Int) (s : ByteArray) (v : Value) (l : List RT)

def encT : RT → List Value
  | .mk k i s v _ => [.int .i64 k, .int .i64 i, .string s, v]

mutual
def RT.ok (h : Heap) : RT → Prop
  | .mk _ _ _ v l => SL encT h v l ∧ l.length < 4611686018427387904 ∧ RT.oks h l
def RT.oks (h : Heap) : List RT → Prop
  | [] => True
  | t :: l => t.ok h ∧ RT.oks h l
end

mutual
def RT.same : RT → RT → Bool
  | .mk k i s _ l, .mk k' i' s' _ m => decide (k = k') && decide (i = i') && decide (s = s') && RT.sames l m
def RT.sames : List RT → List RT → Bool
  | [], [] => true
  | x :: l, y :: m => x.same y && RT.sames l m
  | _, _ => false
end

mutual
theorem RT.ok.ext {h h' : Heap} (hc : Chg [] h h') : ∀ {t : RT}, t.ok h → t.ok h'
  | .mk _ _ _ _ _, ⟨h1, h2, h3⟩ => ⟨h1.ext hc, h2, RT.oks.ext hc h3⟩
theorem RT.oks.ext {h h' : Heap} (hc : Chg [] h h') : ∀ {l : List RT}, RT.oks h l → RT.oks h' l
  | [], _ => trivial
  | _ :: _, ⟨h1, h2⟩ => ⟨h1.ext hc, RT.oks.ext hc h2⟩
end

theorem RT.oks.mem {h : Heap} : ∀ {l : List RT}, RT.oks h l → ∀ t ∈ l, t.ok h
  | _ :: _, ⟨h1, h2⟩, t, ht => by
    rcases List.mem_cons.1 ht with rfl | ht
    · exact h1
    · exact RT.oks.mem h2 t ht

theorem encT_len : ∀ t, (encT t).length = 4
  | .mk _ _ _ _ _ => rfl

theorem RT.ok.ones {h : Heap} : ∀ {t : RT}, t.ok h → ∀ u ∈ encT t, u.oneCell' = true
  | .mk k i s v l, ⟨h1, _⟩, u, hu => by
    obtain ⟨a, c, rfl, _⟩ := h1.form
    simp [encT] at hu
    rcases hu with rfl | rfl | rfl | rfl <;> rfl

theorem sames_len : ∀ {l m : List RT}, l.length ≠ m.length → RT.sames l m = false
  | [], [], h => absurd rfl h
  | [], _ :: _, _ => by simp [RT.sames]
  | _ :: _, [], _ => by simp [RT.sames]
  | x :: l, y :: m, h => by
    simp only [RT.sames, Bool.and_eq_false_iff]
    exact .inr (sames_len (by simpa using h))

mutual
theorem RT.same_refl : ∀ t : RT, t.same t = true
  | .mk _ _ _ _ l => by simp [RT.same, RT.sames_refl l]
theorem RT.sames_refl : ∀ l : List RT, RT.sames l l = true
  | [] => by simp [RT.sames]
  | t :: l => by simp [RT.sames, RT.same_refl t, RT.sames_refl l]
end

theorem sames_drop {l m : List RT} {q : Nat} (hl : q < l.length) (hm : q < m.length) : RT.sames (l.drop q) (m.drop q) = (l[q].same m[q] && RT.sames (l.drop (q + 1)) (m.drop (q + 1))) := by
  rw [List.drop_eq_getElem_cons hl, List.drop_eq_getElem_cons hm, RT.sames]

theorem sizeOf_item {k i : Int} {s : ByteArray} {v : Value} {l : List RT} {q : Nat} (hq : q < l.length) : SizeOf.sizeOf l[q] < SizeOf.sizeOf (RT.mk k i s v l) := by
  have h1 := List.sizeOf_lt_of_mem (List.getElem_mem hq)
  rw [RT.mk.sizeOf_spec]; omega

/-- The document's. -/
theorem rsame_calls : ∀ (n : Nat) (a b : RT) (h : Heap), SizeOf.sizeOf a < n → a.ok h → b.ok h → CallsH Tryz.prog 22 [.agg ⟨encT a⟩, .agg ⟨encT b⟩] h (Ret fun r h' => r = .bool (a.same b) ∧ Chg [] h h')
  | 0, _, _, _, hn, _, _ => absurd hn (by omega)
  | n + 1, .mk k i s v l, .mk k' i' s' v' m, h, hn, ⟨hv, hl, hls⟩, ⟨hu, hm, hms⟩ => by
    obtain ⟨x, c, rfl, hlc⟩ := hv.form
    obtain ⟨x', c', rfl, hmc⟩ := hu.form
    have hs : RT.same (.mk k i s (.slice x l.length c) l) (.mk k' i' s' (.slice x' m.length c') m) = (decide (k = k') && decide (i = i') && decide (s = s') && RT.sames l m) := by rw [RT.same]
    rw [hs]
    refine f22_calls (by simp) ?_
    intro b1 h1 g1 b2 h2 g2
    have B1 : Blk h2 b1 [.int .i64 k, .int .i64 i, .string s, .slice x l.length c] := Blk.chg g1.blk g2.chg (by simp)
    have B2 : Blk h2 b2 [.int .i64 k', .int .i64 i', .string s', .slice x' m.length c'] := g2.blk
    have ch : Chg [] h h2 := g1.chg.nil g2.chg
    refine Exists.intro _ (And.intro (cell_blk B1 rfl) (Exists.intro _ (And.intro (cell_blk B2 rfl) (And.intro rfl (And.intro (fun hne => ?_) (fun he => ?_))))))
    · exact And.intro (by rw [decide_eq_false hne]; rfl) ch
    have he : k = k' := Classical.not_not.1 he
    refine Exists.intro _ (And.intro (cell_blk B1 rfl) (Exists.intro _ (And.intro (cell_blk B2 rfl) (And.intro rfl (And.intro (fun hne => ?_) (fun he2 => ?_))))))
    · exact And.intro (by rw [decide_eq_false hne, Bool.and_false]; rfl) ch
    have he2 : i = i' := Classical.not_not.1 he2
    refine Exists.intro _ (And.intro (cell_blk B1 rfl) (Exists.intro _ (And.intro (cell_blk B2 rfl) (And.intro (fun hne => ?_) (fun he3 => ?_)))))
    · exact And.intro (by rw [decide_eq_false hne, Bool.and_false]; rfl) ch
    have he3 : s = s' := Classical.not_not.1 he3
    rw [decide_eq_true he, decide_eq_true he2, decide_eq_true he3, Bool.true_and, Bool.true_and, Bool.true_and]
    refine Exists.intro _ (And.intro (cell_blk B1 rfl) (Exists.intro _ (And.intro (cell_blk B2 rfl) (And.intro rfl (And.intro (fun hne => ?_) (fun he4 => ?_))))))
    · exact And.intro (by rw [sames_len (by omega)]; rfl) ch
    have he4 : l.length = m.length := by omega
    clear hs he he2 he3 g1 g2
    refine loop_intro (fun q : Nat => [(2, .pointer (some ⟨b1, 0, none⟩)), (3, .pointer (some ⟨b2, 0, none⟩)), (5, .int .i64 q)]) (fun q h' => q ≤ l.length ∧ Chg [] h2 h' ∧ RT.sames l m = RT.sames (l.drop q) (m.drop q)) (fun q => l.length - q) 0 ⟨rfl, rfl, rfl, trivial⟩ ⟨Nat.zero_le _, Chg.refl _, rfl⟩ ?_
    rintro q h3 ⟨hq, hc3, hr⟩
    have C1 := B1.chg hc3 (by simp)
    have C2 := B2.chg hc3 (by simp)
    refine Exists.intro _ (And.intro (cell_blk C1 rfl) (And.intro rfl (And.intro (fun hlt => ?_) (fun hge => ?_))))
    · have hlt : q < l.length := by omega
      have hltm : q < m.length := by omega
      have hch := ch.nil hc3
      obtain ⟨b, o, rfl⟩ := hv.addr (by omega)
      obtain ⟨b', o', rfl⟩ := hu.addr (by omega)
      have hcs := (hv.ext hch).cells encT_len (i := q) (x := l[q]) (by simp [hlt])
      have hds := (hu.ext hch).cells encT_len (i := q) (x := m[q]) (by simp [hltm])
      refine Exists.intro _ (And.intro (cell_blk C1 rfl) ?_)
      refine And.intro (by omega) (And.intro (by omega) (Exists.intro (encT l[q]) (And.intro (encT_len _) (And.intro hcs ?_))))
      refine Exists.intro _ (And.intro (cell_blk C2 rfl) ?_)
      refine And.intro (by omega) (And.intro (by omega) (Exists.intro (encT m[q]) (And.intro (encT_len _) (And.intro hds ?_))))
      refine call_ret (rsame_calls n l[q] m[q] h3 (by have := sizeOf_item (k := k) (i := i) (s := s) (v := .slice (some ⟨b, o, none⟩) l.length c) hlt; omega) ((hls.mem _ (List.getElem_mem hlt)).ext hch) ((hms.mem _ (List.getElem_mem hltm)).ext hch)) ?_
      rintro r h4 ⟨hrr, hc4⟩
      rw [sames_drop hlt hltm] at hr
      cases hsm : l[q].same m[q] with
      | false =>
        rw [hsm] at hrr hr
        subst hrr
        exact And.intro (by rw [hr]; rfl) (hch.nil hc4)
      | true =>
        rw [hsm] at hrr hr
        subst hrr
        refine And.intro rfl (fun z hz => ?_)
        have hz := add_in hz (by omega) (by omega)
        subst hz
        refine And.intro rfl (Exists.intro (q + 1) (And.intro ⟨rfl, rfl, rfl, trivial⟩ (And.intro ⟨by omega, hc3.nil hc4, by rw [hr, Bool.true_and]⟩ (by omega))))
    · have hkl : q = l.length := by omega
      subst hkl
      rw [List.drop_length, he4, List.drop_length, RT.sames] at hr
      exact And.intro (by rw [hr]; rfl) (ch.nil hc3)

end Go.Proofs.YtigolfakcblnjaaGreatDoor
