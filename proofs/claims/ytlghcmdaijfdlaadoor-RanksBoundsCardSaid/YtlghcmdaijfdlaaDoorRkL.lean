/-
  Set, Score, Rank.
-/
import Derived.Test.YtlghcmdaijfdlaaDoorRkK
namespace Go.Proofs.YtlghcmdaijfdlaaDoor
open Go Go.Sx Go.Proofs.YtlghcmdaijfdlaaDoor.C

def SetP (h : Heap) (v : Value) (S : List Rank) (fp : List Nat) (x : Rank) (u : Value) (h' : Heap) : Prop :=
  Chg fp h h' ∧ if setErr S x = true then u = .tuple #[.bool false, .int .i64 3] ∧ h' = h ∧ RS h' v S fp else
    u = .tuple #[.bool (decide (findR x.name S 0 < 0)), .int .i64 0] ∧ ∃ fp', RS h' v (setR S x) fp' ∧ ∀ b ∈ fp', b ∈ fp ∨ h.size ≤ b

theorem sel_len_le {n : ByteArray} {S : List Rank} (h : ∃ a x b, S = a ++ x :: b ∧ x.name = n) : (dropR n S).length < S.length := by
  obtain ⟨a, x, b, rfl, hn⟩ := h
  unfold dropR
  rw [sel_append]
  simp only [sel, hn]
  have h1 := sel_length (fun x _ => decide (x.name ≠ n)) a 0
  have h2 := sel_length (fun x _ => decide (x.name ≠ n)) b (0 + a.length + 1)
  simp at h1 h2 ⊢; omega

theorem dropR_no {n : ByteArray} {S : List Rank} : ∀ y ∈ dropR n S, y.name ≠ n := by
  have key : ∀ (l : List Rank) (i : Nat), ∀ y ∈ sel (fun x _ => decide (x.name ≠ n)) l i, y.name ≠ n := by
    intro l
    induction l with
    | nil => intro i y hy; simp [sel] at hy
    | cons x l ih =>
      intro i y hy
      simp only [sel] at hy
      split at hy
      · rename_i hx
        rcases List.mem_cons.1 hy with rfl | hy
        · simpa using hx
        · exact ih _ y hy
      · exact ih _ y hy
  exact key S 0

theorem setm_calls {h : Heap} {v : Value} {S : List Rank} {fp : List Nat} (rs : RS h v S fp) (x : Rank) (coin : Int) :
    CallsH Tryd.prog 24 [v, .string x.name, .int .i64 x.score, .int .i64 coin] h (Ret (SetP h v S fp x)) := by
  obtain ⟨rb, mpb, N, rfl, rk, rfl⟩ := rs
  obtain ⟨hd0, mem0, hN0, hht0, hrb⟩ := rk.rd.r
  obtain ⟨es, cl, hmap, hfits, hel, hl⟩ := rk.look x.name
  have hNl := rk.len
  have hN65 := rk.rd.len
  refine f24_calls (by simp) ?_
  refine call_ret (none_calls hrb) ?_
  rintro _ h1 ⟨rfl, rfl⟩
  have same : setErr S x = true → SetP h1 (ptr rb) S (blks rb mpb N) x (.tuple #[.bool false, .int .i64 3]) h1 := fun e =>
    ⟨(Chg.refl h1).mono (by simp), by rw [if_pos e]; exact ⟨rfl, rfl, rb, mpb, N, rfl, rk, rfl⟩⟩
  refine Exists.intro _ (And.intro (cell_blk hrb rfl) ?_)
  refine And.intro rfl (Exists.intro es (Exists.intro cl (And.intro hmap (And.intro hfits ?_))))
  rcases hl with ⟨hno, hm⟩ | ⟨A, m, B, j, rfl, hA, hmn, hm⟩
  · rw [hm]
    have hf := findR_none (i := 0) hno
    refine And.intro rfl (And.intro (fun hs => ?_) (fun hs => ?_))
    · exact same (by simp [setErr]; omega)
    · refine Exists.intro _ (And.intro (cell_blk hrb rfl) ?_)
      refine Exists.intro es (Exists.intro cl (And.intro hmap ?_))
      refine And.intro rfl (And.intro (fun hfull => ?_) (fun hfull => ?_))
      · exact same (by simp [setErr, hf]; omega)
      · have e : setErr S x = false := by simp [setErr, hf]; omega
        refine call_ret (put_calls rk x coin hno (by omega)) ?_
        rintro _ h2 ⟨N', rk2, hc2, hb2⟩
        refine And.intro hc2 ?_
        rw [e, if_neg (by simp)]
        refine And.intro ?_ (Exists.intro _ (And.intro ⟨rb, mpb, N', rfl, ?_, rfl⟩ hb2))
        · rw [hf]; rfl
        · unfold setR; rw [dropR_none hno]; exact rk2
  · rw [hm]
    have hS := rk.there hA
    have hthere : ∃ a y b, S = a ++ y :: b ∧ y.name = x.name := ⟨_, _, _, hS, hmn⟩
    have hf : 0 ≤ findR x.name S 0 := by
      have hnm := rk.names
      rw [hS] at hnm ⊢
      rw [← hmn, findR_mid hnm]; omega
    refine And.intro rfl (And.intro (fun hs => ?_) (fun hs => ?_))
    · exact same (by simp [setErr]; omega)
    · have e : setErr S x = false := by simp [setErr]; omega
      refine call_ret (take_calls rk hA) ?_
      rintro _ h2 ⟨rk2, hc2⟩
      rw [hmn] at rk2
      have hdl := sel_len_le hthere
      refine call_ret (put_calls rk2 x coin dropR_no (by omega)) ?_
      rintro _ h3 ⟨N', rk3, hc3, hb3⟩
      have hsub : ∀ b, b ∈ blks rb mpb (A ++ B) → b ∈ blks rb mpb (A ++ m :: B) := fun b hb => by rw [blks_mid.mem_iff]; simp [hb]
      refine And.intro (hc2.trans hc3 (fun k hk => hk) (fun k hk _ => hsub k hk)) ?_
      rw [e, if_neg (by simp)]
      refine And.intro ?_ (Exists.intro _ (And.intro ⟨rb, mpb, N', rfl, rk3, rfl⟩ fun b hb => ?_))
      · rw [decide_eq_false (by omega)]; rfl
      · rcases hb3 b hb with h | h
        · exact Or.inl (hsub b h)
        · have := hc2.size; right; omega

theorem score_calls {h : Heap} {v : Value} {S : List Rank} {fp : List Nat} (rs : RS h v S fp) (nm : ByteArray) :
    CallsH Tryd.prog 13 [v, .string nm] h (Ret fun u h' => h' = h ∧ (((∀ y ∈ S, y.name ≠ nm) ∧ u = .tuple #[.int .i64 0, .bool false]) ∨ ∃ a y b, S = a ++ y :: b ∧ y.name = nm ∧ u = .tuple #[.int .i64 y.score, .bool true])) := by
  obtain ⟨rb, mpb, N, rfl, rk, rfl⟩ := rs
  obtain ⟨hd0, mem0, hN0, hht0, hrb⟩ := rk.rd.r
  obtain ⟨es, cl, hmap, hfits, hel, hl⟩ := rk.look nm
  refine f13_calls (by simp) ?_
  refine call_ret (none_calls hrb) ?_
  rintro _ h1 ⟨rfl, rfl⟩
  refine Exists.intro _ (And.intro (cell_blk hrb rfl) ?_)
  refine And.intro rfl (Exists.intro es (Exists.intro cl (And.intro hmap (And.intro hfits ?_))))
  rcases hl with ⟨hno, hm⟩ | ⟨A, m, B, j, rfl, hA, hmn, hm⟩
  · rw [hm]
    exact And.intro rfl (Or.inl ⟨hno, rfl⟩)
  · rw [hm]
    have Mm := (rk.rd.ok m (by simp)).m
    refine Exists.intro _ (And.intro (cell_blk Mm rfl) ?_)
    exact And.intro rfl (Or.inr ⟨_, _, _, rk.there hA, hmn, rfl⟩)

theorem rank_calls {h : Heap} {v : Value} {S : List Rank} {fp : List Nat} (rs : RS h v S fp) (nm : ByteArray) :
    CallsH Tryd.prog 12 [v, .string nm] h (Ret fun u h' => Chg [] h h' ∧ (((∀ y ∈ S, y.name ≠ nm) ∧ u = .tuple #[.int .i64 0, .bool false]) ∨ ∃ a y b, S = a ++ y :: b ∧ y.name = nm ∧ u = .tuple #[.int .i64 a.length, .bool true])) := by
  obtain ⟨rb, mpb, N, rfl, rk, rfl⟩ := rs
  obtain ⟨hd0, mem0, hN0, hht0, hrb⟩ := rk.rd.r
  obtain ⟨es, cl, hmap, hfits, hel, hl⟩ := rk.look nm
  refine f12_calls (by simp) ?_
  refine call_ret (none_calls hrb) ?_
  rintro _ h1 ⟨rfl, rfl⟩
  refine Exists.intro _ (And.intro (cell_blk hrb rfl) ?_)
  refine And.intro rfl (Exists.intro es (Exists.intro cl (And.intro hmap (And.intro hfits ?_))))
  rcases hl with ⟨hno, hm⟩ | ⟨A, m, B, j, rfl, hA, hmn, hm⟩
  · rw [hm]
    exact And.intro (Chg.refl h1) (Or.inl ⟨hno, rfl⟩)
  · rw [hm]
    have okm := rk.rd.ok m (by simp)
    have hS := rk.there hA
    refine Exists.intro (encR m.r) (And.intro rfl (And.intro (cells_part (l := m.row) okm.m ?_) ?_))
    · intro j v hj
      rw [Nat.zero_add]
      unfold Nd.row
      rw [List.getElem?_append_left (List.getElem?_eq_some_iff.1 hj).1]; exact hj
    refine call_ret (less_calls m.r) ?_
    rintro _ h2 ⟨bl, rfl, hbl, Bl, hc2⟩
    have rk2 := rk.ext hc2
    have hup : upto m.r S = A.tail.length := by
      have hs := rk.sorted
      rw [hS] at hs ⊢
      rw [upto_mid hs]; simp
    have hAl : A.length = upto m.r S + 1 := by
      rw [hup]; cases A with
      | nil => exact absurd rfl hA
      | cons a A => simp
    have ask := less_ask Bl (N := A ++ m :: B) (by rw [rk.isS]; exact rk.sorted)
    rw [rk.isS, ← hAl] at ask
    refine call_ret (down_calls rk2.rd rfl hA ask) ?_
    rintro _ h3 ⟨pb, rfl, hpb, ⟨pl, Bp, hpath⟩, hc3⟩
    obtain ⟨p0, i0, hlast0, _, hp02⟩ := hpath 0 (by omega)
    have hi0 : i0 = A.length - 1 := last_low (fun a ha => (rk.rd.ok a (List.mem_append_left _ ha)).pos) hlast0
    refine And.intro (by decide) (And.intro (by decide) (Exists.intro (.int .i64 i0) (And.intro (cell_blk Bp hp02) ?_)))
    refine And.intro (hc2.nil hc3) (Or.inr ⟨_, _, _, hS, hmn, ?_⟩)
    have : i0 = (A.tail.map Nd.r).length := by simp; omega
    rw [← this]; rfl

end Go.Proofs.YtlghcmdaijfdlaaDoor
