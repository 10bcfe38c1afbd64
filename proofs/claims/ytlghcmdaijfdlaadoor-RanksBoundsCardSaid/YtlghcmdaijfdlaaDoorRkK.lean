/-
  What a set's map tells; Drop, Len, Set, Score.
-/
import Derived.Test.YtlghcmdaijfdlaaDoorRkJ
namespace Go.Proofs.YtlghcmdaijfdlaaDoor
open Go Go.Sx Go.Proofs.YtlghcmdaijfdlaaDoor.C

theorem RK.look {h : Heap} {rb mpb : Nat} {N : List Nd} {S : List Rank} (rk : RK h rb mpb N S) (nm : ByteArray) :
    ∃ es c, MapB h mpb es c ∧ (∀ e ∈ es, fits .str e.key = true) ∧ es.length = S.length ∧
      (((∀ y ∈ S, y.name ≠ nm) ∧ mfind (.string nm) es 0 = none) ∨ ∃ A m B j, N = A ++ m :: B ∧ A ≠ [] ∧ m.r.name = nm ∧ mfind (.string nm) es 0 = some (j, ptr m.mb)) := by
  obtain ⟨es, cl, hmap, hperm⟩ := rk.map
  obtain ⟨hd, mem, hN, _, _⟩ := rk.rd.r
  have hS : S = mem.map Nd.r := by rw [← rk.isS, hN]; rfl
  have hlen := hperm.length_eq
  have hkeys : ∀ e ∈ es, ∃ a ∈ mem, e.key = .string a.r.name ∧ e.val = ptr a.mb := by
    intro e he
    have h1 : (e.key, e.val) ∈ mapOf N := hperm.mem_iff.1 (List.mem_map_of_mem (f := fun e : MapEntry => (e.key, e.val)) he)
    rw [hN] at h1
    obtain ⟨a, ha, hae⟩ := List.mem_map.1 h1
    exact ⟨a, ha, (congrArg Prod.fst hae).symm, (congrArg Prod.snd hae).symm⟩
  have hfits : ∀ e ∈ es, fits .str e.key = true := fun e he => by
    obtain ⟨a, _, h2, _⟩ := hkeys e he; rw [h2]; rfl
  refine ⟨es, cl, hmap, hfits, by rw [hS]; simpa [mapOf, hN] using hlen, ?_⟩
  cases hm : mfind (.string nm) es 0 with
  | none =>
    refine Or.inl ⟨fun y hy e => ?_, rfl⟩
    have hno := mfind_none (k := .str) rfl es 0 hfits hm
    rw [hS] at hy
    obtain ⟨a, ha, rfl⟩ := List.mem_map.1 hy
    have hin : ((.string a.r.name, ptr a.mb) : Value × Value) ∈ es.map fun e => (e.key, e.val) := by
      rw [hperm.mem_iff, hN]; exact List.mem_map_of_mem (f := fun a : Nd => ((.string a.r.name, ptr a.mb) : Value × Value)) ha
    obtain ⟨x, hx, hxe⟩ := List.mem_map.1 hin
    exact hno x hx (by rw [← e]; exact congrArg Prod.fst hxe)
  | some jv =>
    obtain ⟨j, v⟩ := jv
    obtain ⟨_, e, hej, hek, hev⟩ := mfind_spec (k := .str) rfl es 0 j v hfits hm
    obtain ⟨a, ha, hak, hav⟩ := hkeys e (List.mem_of_getElem? hej)
    obtain ⟨A, B, rfl⟩ := List.append_of_mem ha
    rw [hek] at hak
    refine Or.inr ⟨hd :: A, a, B, j, hN, by simp, (by simpa using hak.symm), ?_⟩
    rw [← hev, hav]

/-- A ranked set: its members, its blocks. -/
def RS (h : Heap) (v : Value) (S : List Rank) (fp : List Nat) : Prop := ∃ rb mpb N, v = ptr rb ∧ RK h rb mpb N S ∧ fp = blks rb mpb N

theorem RS.ext {h h' : Heap} {v : Value} {S : List Rank} {fp : List Nat} (rs : RS h v S fp) (hc : Chg [] h h') : RS h' v S fp := by
  obtain ⟨rb, mpb, N, h1, h2, h3⟩ := rs
  exact ⟨rb, mpb, N, h1, h2.ext hc, h3⟩

theorem RK.there {h : Heap} {rb mpb : Nat} {A B : List Nd} {m : Nd} {S : List Rank} (rk : RK h rb mpb (A ++ m :: B) S) (hA : A ≠ []) :
    S = (A.tail.map Nd.r) ++ m.r :: B.map Nd.r := by
  obtain ⟨hd, A', rfl⟩ := List.exists_cons_of_ne_nil hA
  rw [← rk.isS]; simp [recs]

theorem dropm_calls {h : Heap} {v : Value} {S : List Rank} {fp : List Nat} (rs : RS h v S fp) (nm : ByteArray) :
    CallsH Tryd.prog 20 [v, .string nm] h (Ret fun u h' => u = .bool (decide (0 ≤ findR nm S 0)) ∧ Chg fp h h' ∧ ∃ fp', RS h' v (dropR nm S) fp' ∧ ∀ b ∈ fp', b ∈ fp) := by
  obtain ⟨rb, mpb, N, rfl, rk, rfl⟩ := rs
  obtain ⟨hd0, mem0, hN0, hht0, hrb⟩ := rk.rd.r
  obtain ⟨es, cl, hmap, hfits, hel, hl⟩ := rk.look nm
  refine f20_calls (by simp) ?_
  refine call_ret (none_calls hrb) ?_
  rintro _ h1 ⟨rfl, rfl⟩
  refine Exists.intro _ (And.intro (cell_blk hrb rfl) ?_)
  refine And.intro rfl (Exists.intro es (Exists.intro cl (And.intro hmap (And.intro hfits ?_))))
  rcases hl with ⟨hno, hm⟩ | ⟨A, m, B, j, rfl, hA, rfl, hm⟩
  · rw [hm]
    refine And.intro ?_ (And.intro ((Chg.refl h1).mono (by simp)) (Exists.intro _ (And.intro ⟨rb, mpb, N, rfl, ?_, rfl⟩ fun b hb => hb)))
    · rw [findR_none hno]; rfl
    · rw [dropR_none hno]; exact rk
  · rw [hm]
    refine call_ret (take_calls rk hA) ?_
    rintro _ h2 ⟨rk2, hc2⟩
    refine And.intro ?_ (And.intro hc2 (Exists.intro _ (And.intro ⟨rb, mpb, A ++ B, rfl, rk2, rfl⟩ fun b hb => ?_)))
    · have hS := rk.there hA
      have hnm := rk.names
      rw [hS] at hnm ⊢
      rw [findR_mid hnm]
      rw [decide_eq_true (by omega)]; rfl
    · rw [blks_mid.mem_iff]; simp [hb]

theorem len_calls {h : Heap} {v : Value} {S : List Rank} {fp : List Nat} (rs : RS h v S fp) :
    CallsH Tryd.prog 26 [v] h (Ret fun u h' => u = .int .i64 S.length ∧ h' = h) := by
  obtain ⟨rb, mpb, N, rfl, rk, rfl⟩ := rs
  obtain ⟨hd0, mem0, hN0, hht0, hrb⟩ := rk.rd.r
  obtain ⟨es, cl, hmap, hfits, hel, hl⟩ := rk.look ⟨#[]⟩
  refine f26_calls (by simp) ?_
  refine call_ret (none_calls hrb) ?_
  rintro _ h1 ⟨rfl, rfl⟩
  refine Exists.intro _ (And.intro (cell_blk hrb rfl) ?_)
  refine Exists.intro es (Exists.intro cl (And.intro hmap ?_))
  exact And.intro (by rw [← hel]; rfl) rfl

end Go.Proofs.YtlghcmdaijfdlaaDoor
