/-
  put.
-/
import Derived.Test.YtlghcmdaijfdlaaDoorRkF
namespace Go.Proofs.YtlghcmdaijfdlaaDoor
open Go Go.Sx Go.Proofs.YtlghcmdaijfdlaaDoor.C

def blks (rb mpb : Nat) (N : List Nd) : List Nat := rb :: mpb :: (N.map Nd.mb ++ lbN N)

def mapOf (N : List Nd) : List (Value × Value) := N.tail.map fun a => (.string a.r.name, ptr a.mb)

/-- A ranked set. -/
structure RK (h : Heap) (rb mpb : Nat) (N : List Nd) (S : List Rank) : Prop where
  rd : RD h rb mpb N
  dis : (blks rb mpb N).Nodup
  isS : recs N = S
  map : ∃ es c, MapB h mpb es c ∧ (es.map fun e => (e.key, e.val)).Perm (mapOf N)
  sorted : Sorted S
  names : Names S
  tab : TabH h
  no1 : 1 ∉ blks rb mpb N

theorem TabH.chg {S : List Nat} {h h' : Heap} (ht : TabH h) (hc : Chg S h h') (hn : 1 ∉ S) : TabH h' := fun i hi =>
  let ⟨v, h0, h1, h2⟩ := ht i hi
  ⟨v, h0, h1, cell_chg h2 hc hn⟩

theorem RK.ext {h h' : Heap} {rb mpb : Nat} {N : List Nd} {S : List Rank} (rk : RK h rb mpb N S) (hc : Chg [] h h') : RK h' rb mpb N S :=
  ⟨rk.rd.ext hc, rk.dis, rk.isS, let ⟨es, c, h1, h2⟩ := rk.map; ⟨es, c, h1.chg hc (by simp), h2⟩, rk.sorted, rk.names, rk.tab.chg hc (by simp), rk.no1⟩

theorem RK.len {h : Heap} {rb mpb : Nat} {N : List Nd} {S : List Rank} (rk : RK h rb mpb N S) : N.length = S.length + 1 := by
  obtain ⟨hd, mem, rfl, _, _⟩ := rk.rd.r
  rw [← rk.isS]; simp [recs]

/-- All its blocks are there. -/
theorem RK.lt {h : Heap} {rb mpb : Nat} {N : List Nd} {S : List Rank} (rk : RK h rb mpb N S) : ∀ b ∈ blks rb mpb N, b < h.size := by
  intro b hb
  obtain ⟨hd, mem, hN, _, hrb⟩ := rk.rd.r
  obtain ⟨es, c, hm, _⟩ := rk.map
  simp only [blks, List.mem_cons, List.mem_append, lbN, List.mem_map] at hb
  rcases hb with rfl | rfl | ⟨a, ha, rfl⟩ | ⟨a, ha, rfl⟩
  · exact hrb.lt
  · exact hm.lt
  · exact (rk.rd.ok a ha).m.lt
  · obtain ⟨lk, hl, _⟩ := (rk.rd.ok a ha).l
    exact hl.lt

theorem dis_parts {rb mpb : Nat} {N : List Nd} (hd : (blks rb mpb N).Nodup) : rb ∉ lbN N ∧ mpb ∉ lbN N ∧ (∀ a ∈ N, a.mb ∉ lbN N) ∧ (lbN N).Nodup ∧ (∀ a ∈ N, a.mb ≠ mpb) ∧ rb ≠ mpb ∧ ∀ a ∈ N, a.mb ≠ rb := by
  simp only [blks, List.nodup_cons, List.mem_cons, List.mem_append, List.nodup_append, not_or] at hd
  obtain ⟨⟨h0, h1, h2⟩, ⟨h3, h4⟩, h5, h6, h7⟩ := hd
  refine ⟨h2, h4, fun a ha h => ?_, h6, fun a ha e => h3 (by rw [← e]; exact List.mem_map_of_mem ha), h0, fun a ha e => h1 (by rw [← e]; exact List.mem_map_of_mem ha)⟩
  exact h7 a.mb (List.mem_map_of_mem ha) a.mb h rfl

theorem lbN_sub {rb mpb : Nat} {N : List Nd} : ∀ b ∈ lbN N, b ∈ blks rb mpb N := fun b hb => by simp [blks, hb]

theorem blks_mid {rb mpb : Nat} {A B : List Nd} {x : Nd} : (blks rb mpb (A ++ x :: B)).Perm (x.mb :: x.lb :: blks rb mpb (A ++ B)) := by
  have h1 : ((A ++ x :: B).map Nd.mb ++ lbN (A ++ x :: B)).Perm (x.mb :: x.lb :: ((A ++ B).map Nd.mb ++ lbN (A ++ B))) := by
    have e1 : ((A ++ x :: B).map Nd.mb).Perm (x.mb :: (A ++ B).map Nd.mb) := by simp [List.perm_middle]
    have e2 : (lbN (A ++ x :: B)).Perm (x.lb :: lbN (A ++ B)) := by simp [lbN, List.perm_middle]
    refine (e1.append e2).trans ?_
    rw [List.cons_append]
    exact List.perm_middle.cons _
  unfold blks
  refine ((h1.cons mpb).cons rb).trans ?_
  have e3 : ∀ (a b c d : Nat) (l : List Nat), (a :: b :: c :: d :: l).Perm (c :: d :: a :: b :: l) := by
    intro a b c d l
    have := (List.perm_append_comm (l₁ := [a, b]) (l₂ := [c, d])).append_right l
    simpa using this
  exact e3 ..

/-- Where the head of a set's members is. -/
theorem split_at {h : Heap} {rb mpb : Nat} {N : List Nd} {S : List Rank} (rk : RK h rb mpb N S) {K : Nat} (hK : K ≤ S.length) :
    N = N.take (K + 1) ++ N.drop (K + 1) ∧ (N.take (K + 1)).length = K + 1 ∧ (∃ hd A', N.take (K + 1) = hd :: A' ∧ A'.map Nd.r = S.take K) ∧ (N.drop (K + 1)).map Nd.r = S.drop K := by
  have hl := rk.len
  obtain ⟨hd, mem, rfl, _, _⟩ := rk.rd.r
  have hr : mem.map Nd.r = S := rk.isS
  simp at hl
  refine ⟨(List.take_append_drop ..).symm, by simp; omega, ⟨hd, mem.take K, rfl, ?_⟩, ?_⟩
  · rw [List.map_take, hr]
  · rw [List.drop_succ_cons, List.map_drop, hr]

/-- What a member's put in gives, of all that is behind the links. -/
theorem RK.put {h h' : Heap} {rb mpb : Nat} {A B : List Nd} {S : List Rank} {x : Nd} (rk : RK h rb mpb (A ++ B) S) (hA : A ≠ []) {es : List MapEntry} {c c' : Nat} (hmap : (es.map fun e => (e.key, e.val)).Perm (mapOf (A ++ B)))
    (hrd : RD h' rb mpb (A ++ x :: B)) (hm : MapB h' mpb (es ++ [{ key := .string x.r.name, val := ptr x.mb, born := c }]) c') (hrec : recs (A ++ x :: B) = insR x.r S) (hn : ∀ y ∈ S, y.name ≠ x.r.name)
    (hf : x.mb ∉ blks rb mpb (A ++ B) ∧ x.lb ∉ blks rb mpb (A ++ B) ∧ x.mb ≠ x.lb) (ht : TabH h') (h1 : x.mb ≠ 1 ∧ x.lb ≠ 1) : RK h' rb mpb (A ++ x :: B) (insR x.r S) where
  rd := hrd
  dis := by
    rw [blks_mid.nodup_iff, List.nodup_cons, List.nodup_cons]
    exact ⟨by simp [hf.2.2, hf.1], hf.2.1, rk.dis⟩
  isS := hrec
  map := by
    refine ⟨_, _, hm, ?_⟩
    obtain ⟨hd, A', rfl⟩ := List.exists_cons_of_ne_nil hA
    simp only [List.map_append, List.map_cons, List.map_nil]
    have e : (mapOf (hd :: A' ++ x :: B)).Perm ((.string x.r.name, ptr x.mb) :: mapOf (hd :: A' ++ B)) := by
      simp only [mapOf, List.cons_append, List.tail_cons, List.map_append, List.map_cons]
      exact List.perm_middle
    refine (hmap.append_right _).trans (List.Perm.trans ?_ e.symm)
    exact List.perm_append_comm
  sorted := insR_sorted rk.sorted hn
  names := insR_names rk.names hn
  tab := ht
  no1 := by
    rw [blks_mid.mem_iff]
    simp only [List.mem_cons, not_or]
    exact ⟨h1.1.symm, h1.2.symm, rk.no1⟩

end Go.Proofs.YtlghcmdaijfdlaaDoor
