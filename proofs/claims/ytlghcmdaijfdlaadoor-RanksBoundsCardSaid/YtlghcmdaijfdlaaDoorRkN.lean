/-
  from, At, Between.
-/
import Derived.Test.YtlghcmdaijfdlaaDoorRkM
namespace Go.Proofs.YtlghcmdaijfdlaaDoor
open Go Go.Sx Go.Proofs.YtlghcmdaijfdlaaDoor.C

def pv : Option Nd → Value
  | some b => ptr b.mb
  | none => .pointer none

theorem low_lead {h : Heap} : ∀ {N : List Nd} {k i : Nat} {a : Nd}, (∀ a ∈ N, 1 ≤ a.ht) → LvL h 0 (ons 0 k N) → N[i]? = some a → ∃ w, link h a 0 (pv N[i + 1]?) w
  | [], k, i, a, _, _, h => by simp at h
  | x :: N, k, i, a, hp, hL, h => by
    have hx := hp x (by simp)
    have hx0 : 0 < x.ht := by omega
    simp only [ons, hx0, if_true] at hL
    cases i with
    | zero =>
      simp at h; subst h
      cases N with
      | nil => exact hL.1
      | cons y N =>
        have hy := hp y (by simp)
        have hy0 : 0 < y.ht := by omega
        simp only [ons, hy0, if_true] at hL
        exact ⟨_, hL.1⟩
    | succ i =>
      have := low_lead (k := k + 1) (i := i) (a := a) (fun b hb => hp b (by simp [hb])) hL.2 (by simpa using h)
      simpa using this

def AskW (gi gc : Array Value) (g : Nat) (h : Heap) (S : List Rank) (E : Nat) : Prop :=
  ∀ h' k a, Chg [] h h' → S[k]? = some a → CallsH Tryd.prog g (gi.toList ++ [.agg ⟨encR a⟩, .int .i64 k] ++ gc.toList) h' (Ret fun u h'' => u = .bool (decide (k < E)) ∧ Chg [] h' h'')

theorem from_calls {h : Heap} {rb mpb f g : Nat} {fi cap gi gc : Array Value} {N : List Nd} {S : List Rank} (rk : RK h rb mpb N S) {K E : Nat} (hK : K ≤ S.length) (hP : AskP fi cap f h N (K + 1)) (hW : AskW gi gc g h S E) :
    CallsH Tryd.prog 33 [ptr rb, .func (.func f) fi cap, .func (.func g) gi gc] h (Ret fun u h' => OL encR 2 h' u ((S.drop K).take (E - K)) ∧ Chg [] h h' ∧ ∀ b ∈ vblk u, h.size ≤ b) := by
  obtain ⟨hd0, mem0, hN0, hht0, hrb⟩ := rk.rd.r
  have hNl := rk.len
  have hN65 := rk.rd.len
  obtain ⟨hN, hAl, ⟨hd, A', hA', hAr⟩, hBr⟩ := split_at rk hK
  have hAne : N.take (K + 1) ≠ [] := by rw [hA']; simp
  have hget : ∀ k, N[k + 1]?.map Nd.r = S[k]? := by
    intro k
    rw [← rk.isS, hN0]; simp [recs]
  refine f33_calls (by simp) ?_
  refine call_ret (none_calls hrb) ?_
  rintro _ h1 ⟨rfl, rfl⟩
  refine call_ret (down_calls rk.rd hN hAne (by rw [hAl]; exact hP)) ?_
  rintro _ h2 ⟨pb, rfl, hpb, ⟨pl, Bp, hpath⟩, hc2⟩
  have rk2 := rk.ext hc2
  obtain ⟨p0, i0, hlast0, hp01, hp02⟩ := hpath 0 (by omega)
  have hi0 : i0 = K := by
    have := last_low (fun a ha => (rk.rd.ok a (List.mem_of_mem_take ha)).pos) hlast0
    omega
  subst hi0
  have hp0N : N[i0]? = some p0 := by
    have h1 := hlast0.get.2
    rw [List.getElem?_take] at h1
    split at h1
    · exact h1
    · simp at h1
  have ok0 := rk2.rd.ok p0 (List.mem_of_getElem? hp0N)
  obtain ⟨w0, hl0⟩ := low_lead (fun a ha => (rk2.rd.ok a ha).pos) (rk2.rd.lv 0 (by omega)) hp0N
  have hpos := ok0.pos
  refine And.intro (by decide) (And.intro (by decide) (Exists.intro (.int .i64 i0) (And.intro (cell_blk Bp hp02) ?_)))
  refine And.intro (by decide) (And.intro (by decide) (Exists.intro (ptr p0.mb) (And.intro (cell_blk Bp hp01) ?_)))
  refine Exists.intro _ (And.intro (cell_blk ok0.m rfl) ?_)
  refine And.intro (by decide) (And.intro (by omega) (Exists.intro _ (And.intro hl0.1 ?_)))
  refine loop_intro (fun x : Nat × Value × Option Nd => [(2, .func (.func g) gi gc), (7, x.2.1), (9, .int .i64 x.1), (10, pv x.2.2)])
    (fun x h' => i0 ≤ x.1 ∧ x.1 ≤ S.length ∧ x.1 ≤ max E i0 ∧ Chg [] h1 h' ∧ OL encR 2 h' x.2.1 ((S.drop i0).take (x.1 - i0)) ∧ (∀ b ∈ vblk x.2.1, h1.size ≤ b) ∧ x.2.2 = N[x.1 + 1]?) (fun x => S.length - x.1) (i0, .slice none 0 0, N[i0 + 1]?)
    ⟨rfl, rfl, rfl, rfl, trivial⟩ ⟨Nat.le_refl _, hK, by simp only; omega, hc2, by simp only [Nat.sub_self, List.take_zero]; exact OL.nil, by simp [vblk, ablk], rfl⟩ ?_
  rintro ⟨k, ov, q⟩ h3 ⟨hk0, hk, hkE, hc3, ho, hb, hq⟩
  simp only at hk0 hk hkE ho hb hq
  have rk3 := rk.ext hc3
  have fin : ∀ h4, Chg [] h3 h4 → (k = S.length ∨ ¬ k < E) → OL encR 2 h4 ov ((S.drop i0).take (E - i0)) ∧ Chg [] h1 h4 ∧ ∀ b ∈ vblk ov, h1.size ≤ b := by
    intro h4 hc4 hor
    refine ⟨?_, hc3.nil hc4, hb⟩
    have e : (S.drop i0).take (E - i0) = (S.drop i0).take (k - i0) := by
      rcases hor with h | h
      · by_cases hE : E ≤ k
        · have : E - i0 = k - i0 := by omega
          rw [this]
        · rw [List.take_of_length_le (by simp; omega), List.take_of_length_le (by simp; omega)]
      · have : E - i0 = k - i0 := by omega
        rw [this]
    rw [e]; exact ho.ext hc4
  cases q with
  | none =>
    have hkS : k = S.length := by
      have := List.getElem?_eq_none_iff.1 hq.symm
      omega
    exact fin h3 (Chg.refl h3) (Or.inl hkS)
  | some b =>
    have hbN := hq.symm
    have okb := rk3.rd.ok b (List.mem_of_getElem? hbN)
    have hSk : S[k]? = some b.r := by rw [← hget k, hbN]; rfl
    have hkS : k < S.length := (List.getElem?_eq_some_iff.1 hSk).1
    refine Exists.intro (encR b.r) (And.intro rfl (And.intro (cells_part (l := b.row) okb.m ?_) ?_))
    · intro j v hj
      rw [Nat.zero_add]
      unfold Nd.row
      rw [List.getElem?_append_left (List.getElem?_eq_some_iff.1 hj).1]; exact hj
    refine call_ret (hW h3 k b.r hc3 hSk) ?_
    rintro _ h4 ⟨rfl, hc4⟩
    by_cases hkE' : k < E
    · rw [decide_eq_true hkE']
      have okb4 := okb.ext hc4
      refine Exists.intro (encR b.r) (And.intro rfl (And.intro (cells_part (l := b.row) okb4.m ?_) ?_))
      · intro j v hj
        rw [Nat.zero_add]
        unfold Nd.row
        rw [List.getElem?_append_left (List.getElem?_eq_some_iff.1 hj).1]; exact hj
      intro b5 h5 g5
      have ho5 := (ho.ext hc4).ext g5.chg
      have holen : ((S.drop i0).take (k - i0)).length = k - i0 := by simp; omega
      obtain ⟨a5, c5, rfl, hoc⟩ := ho5.sl.form
      refine app_own encR_len encR_one rfl ho5 (SL.one encR_len g5.blk) (by simp; omega) ?_
      intro v' h6 ho6 hc6 hbl
      have hc36 : Chg [] h1 h6 := ((hc3.nil hc4).nil g5.chg).fresh hc6 fun k' hk' => hb k' hk'
      refine And.intro rfl (fun z hz => ?_)
      have hz := add_in hz (by omega) (by omega)
      subst hz
      have rk6 := rk.ext hc36
      have okb6 := rk6.rd.ok b (List.mem_of_getElem? hbN)
      obtain ⟨wb, hlb⟩ := low_lead (fun a ha => (rk6.rd.ok a ha).pos) (rk6.rd.lv 0 (by omega)) hbN
      have hpos' := okb6.pos
      refine Exists.intro _ (And.intro (cell_blk okb6.m rfl) ?_)
      refine And.intro (by decide) (And.intro (by omega) (Exists.intro _ (And.intro hlb.1 ?_)))
      refine And.intro rfl (Exists.intro (k + 1, v', N[k + 1 + 1]?) (And.intro ?_ (And.intro ?_ ?_)))
      · exact ⟨rfl, rfl, rfl, rfl, trivial⟩
      · refine ⟨by simp only; omega, by simp only; omega, by simp only; omega, hc36, ?_, fun b' hb' => ?_, rfl⟩
        · have e : (S.drop i0).take (k + 1 - i0) = (S.drop i0).take (k - i0) ++ [b.r] := by
            have h1 : k + 1 - i0 = (k - i0) + 1 := by omega
            have h2 : (S.drop i0)[k - i0]? = some b.r := by
              rw [List.getElem?_drop]
              have : i0 + (k - i0) = k := by omega
              rw [this]; exact hSk
            rw [h1, List.take_add_one, h2]; rfl
          rw [e]; exact ho6
        · rcases hbl b' hb' with h | h
          · exact hb b' h
          · have := hc3.size; have := hc4.size; have := g5.size; omega
      · simp only; omega
    · rw [decide_eq_false hkE']
      exact fin h4 hc4 (Or.inr hkE')

end Go.Proofs.YtlghcmdaijfdlaaDoor
