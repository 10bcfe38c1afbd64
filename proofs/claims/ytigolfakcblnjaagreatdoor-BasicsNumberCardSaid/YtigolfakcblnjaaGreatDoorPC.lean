/-
  Layer 8: BasicsNumber, its contract.
-/
import Derived.Test.YtigolfakcblnjaaGreatDoorPB
import Derived.Test.YtigolfakcblnjaaGreatDoorKnown
namespace Go.Proofs.YtigolfakcblnjaaGreatDoor
open Go Go.Sx Go.Proofs.YtigolfakcblnjaaGreatDoor.C Go.Num

theorem chg_of_ext {h h' : Heap} (he : Ext h h') : Chg [] h h' := by
  refine ⟨?_, fun k hk _ => he k hk⟩
  rcases Nat.lt_or_ge h'.size h.size with hlt | hge
  · have := he h'.size hlt
    rw [Array.getElem?_eq_none (Nat.le_refl _), Array.getElem?_eq_getElem hlt] at this
    cases this
  · exact hge

theorem known_ret (h : Heap) : CallsH Tryz.prog 11 [] h (Ret fun r h' => r = .bool true ∧ Chg [] h h') :=
  (R.calls h).mono fun e h' ⟨he, hx⟩ => by subst he; exact ⟨rfl, chg_of_ext hx⟩

theorem ops_mv {P : Program} {x : Operand} {d : Nat} {c : SCode} {Q : Post} {σ : Env} {ds : List Deferred} {h : Heap} {v : Value} (he : ev σ x = some v) (hs : swp P c Q (upd σ (some d) v) ds h) :
    swp P (.seq (.ops [⟨some d, none, .mv x⟩]) c) Q σ ds h := by
  simp only [swp, sops, sopr, sop, he]
  exact hs
theorem ops_mv2 {P : Program} {x y : Operand} {d e : Nat} {c : SCode} {Q : Post} {σ : Env} {ds : List Deferred} {h : Heap} {v w : Value} (he : ev σ x = some v) (hf : ev (upd σ (some d) v) y = some w) (hs : swp P c Q (upd (upd σ (some d) v) (some e) w) ds h) :
    swp P (.seq (.ops [⟨some d, none, .mv x⟩, ⟨some e, none, .mv y⟩]) c) Q σ ds h := by
  simp only [swp, sops, sopr, sop, he, hf]
  exact hs
theorem mv_end {P : Program} {F : List PanicEntry → Heap → Prop} {x : Operand} {d : Nat} {c : SCode} {Q : Post} {σ : Env} {ds : List Deferred} {h : Heap} {v : Value} (he : ev σ x = some v) (hs : swp P c Q (upd σ (some d) v) ds h) :
    sops P F (fun σ' h' => thenQ (swp P c Q) Q .normal σ' ds h') [⟨some d, none, .mv x⟩] σ h := by
  simp only [sops, sopr, sop, he]
  exact hs
theorem cond_go {P : Program} {x : Operand} {a b c : SCode} {Q : Post} {σ : Env} {ds : List Deferred} {h : Heap} {t : Bool} (he : ev σ x = some (.bool t)) (hs : swp P (.seq (bif t then a else b) c) Q σ ds h) : swp P (.seq (.cond x a b) c) Q σ ds h := by
  cases t with
  | true => simp only [swp, he]; exact hs
  | false => simp only [swp, he]; exact hs
theorem assoc_go {P : Program} {a b c : SCode} {Q : Post} {σ : Env} {ds : List Deferred} {h : Heap} (hs : swp P (.seq a (.seq b c)) Q σ ds h) : swp P (.seq (.seq a b) c) Q σ ds h := by
  have e : thenQ (swp P b (thenQ (swp P c Q) Q)) (thenQ (swp P c Q) Q) = thenQ (swp P b (thenQ (swp P c Q) Q)) Q := by
    funext x; cases x <;> rfl
  simp only [swp] at hs ⊢
  rw [e]; exact hs
theorem skip_go {P : Program} {c : SCode} {Q : Post} {σ : Env} {ds : List Deferred} {h : Heap} (hs : swp P c Q σ ds h) : swp P (.seq .skip c) Q σ ds h := hs

/-- What stands ahead of the digits. -/
def sgn : SCode := .seq (.ops f13r4) (.seq (.seq (.ops f13r5) (.cond (.tmp 20) (.ops f13r6) .skip)) rest13)
theorem sign_neg {T : Nat} (hT : T = 9223372036854775808) {h : Heap} {r : List UInt8} (h20 : (45 :: r : List UInt8).length ≤ 20) :
    swp Tryz.prog sgn (retQ [.t 2, .t 3] (Ret fun r' h' => r' = numV (refBody T true r) ∧ h' = h)) (mk [(0, .string ⟨⟨45 :: r⟩⟩), (4, .bool true)]) [] h := by
  unfold sgn
  have hsz : (⟨⟨45 :: r⟩⟩ : ByteArray).size = r.length + 1 := rfl
  refine ops_mv2 rfl rfl ?_
  refine assoc_go ?_
  refine ops_mv rfl ?_
  refine cond_go (t := true) rfl ?_
  refine And.intro (by decide) (And.intro (by rw [hsz]; omega) (And.intro (by rw [hsz]; omega) ?_))
  have ex : (⟨⟨45 :: r⟩⟩ : ByteArray).extract (Int.toNat 1) (Int.toNat ((⟨⟨45 :: r⟩⟩ : ByteArray).size : Nat)) = ⟨⟨r⟩⟩ := by
    apply ByteArray.ext
    rw [ByteArray.data_extract]
    apply Array.ext'
    rw [Array.toList_extract, hsz]
    simp
  exact cut_at [(4, .bool true), (5, .string ⟨⟨r⟩⟩)] ⟨rfl, by rw [← ex]; rfl, trivial⟩ (rest13_run hT (by simp at h20; omega))
theorem sign_pos {T : Nat} (hT : T = 9223372036854775808) {h : Heap} {d : List UInt8} (h20 : d.length ≤ 20) :
    swp Tryz.prog sgn (retQ [.t 2, .t 3] (Ret fun r' h' => r' = numV (refBody T false d) ∧ h' = h)) (mk [(0, .string ⟨⟨d⟩⟩), (4, .bool false)]) [] h := by
  unfold sgn
  refine ops_mv2 rfl rfl ?_
  refine assoc_go ?_
  refine ops_mv rfl ?_
  refine cond_go (t := false) rfl ?_
  refine skip_go ?_
  exact cut_at [(4, .bool false), (5, .string ⟨⟨d⟩⟩)] ⟨rfl, rfl, trivial⟩ (rest13_run hT h20)

theorem ref_cons {T : Nat} {c : UInt8} {r : List UInt8} (h20 : (c :: r).length ≤ 20) : refNum T (c :: r) = (if c = 45 then refBody T true r else refBody T false (c :: r)) := by
  have hnb : ¬ (c :: r = [] ∨ 20 < (c :: r).length) := by
    rintro (h | h)
    · cases h
    · omega
  unfold refNum
  rw [if_neg hnb]
  by_cases hc : c = 45
  · subst hc; rw [if_pos (show (45 :: r : List UInt8).head? = some 45 from rfl), if_pos rfl]; rfl
  · rw [if_neg hc, if_neg (by simpa using hc)]

theorem r3_run {T : Nat} (hT : T = 9223372036854775808) {h : Heap} {c : UInt8} {r : List UInt8} (h20 : (c :: r).length ≤ 20) :
    swp Tryz.prog (.seq (.ops f13r3) sgn) (retQ [.t 2, .t 3] (Ret fun r' h' => r' = numV (refNum T (c :: r)) ∧ h' = h)) (mk [(0, .string ⟨⟨c :: r⟩⟩)]) [] h := by
  rw [ref_cons h20]
  refine Exists.intro c (And.intro (by decide) (And.intro (at_get (d := c :: r) (q := 0) (by simp)) ?_))
  refine And.intro rfl (And.intro (fun h45 => ?_) (fun h45 => ?_))
  · have hc : c = 45 := UInt8.toNat_inj.1 (by have h45 : (c.toNat : Int) = 45 := h45; show c.toNat = 45; omega)
    subst hc
    rw [if_pos rfl]
    refine mv_end (v := .bool true) ?_ ?_
    · exact rfl
    exact cut_at [(0, .string ⟨⟨45 :: r⟩⟩), (4, .bool true)] ⟨rfl, rfl, trivial⟩ (sign_neg hT h20)
  · have hc : ¬ c = 45 := by
      intro e; subst e; exact h45 rfl
    rw [if_neg hc]
    refine mv_end (v := .bool false) ?_ ?_
    · exact rfl
    exact cut_at [(0, .string ⟨⟨c :: r⟩⟩), (4, .bool false)] ⟨rfl, rfl, trivial⟩ (sign_pos hT h20)

theorem r8num_calls {T : Nat} (hT : T = 9223372036854775808) {h : Heap} {l : List UInt8} (hs : l.length < 4611686018427387904) :
    CallsH Tryz.prog 13 [.string ⟨⟨l⟩⟩] h (Ret fun r h' => r = numV (refNum T l) ∧ h' = h) := by
  refine f13_calls (by simp) ?_
  have hsz : ((⟨⟨l⟩⟩ : ByteArray).size : Int) = l.length := rfl
  have dead : (l = [] ∨ 20 < l.length) → numV (refNum T l) = .tuple #[.int .i64 0, .bool false] := fun hb => by
    unfold refNum; rw [if_pos hb]; rfl
  refine And.intro (fun he => ?_) (fun hne => ?_)
  · rw [dead (.inl (str_empty.1 he))]
    exact And.intro rfl rfl
  · have hne : l ≠ [] := fun e => hne (str_empty.2 e)
    refine And.intro rfl (And.intro (fun h20 => ?_) (fun h20 => ?_))
    · rw [dead (.inr (by rw [hsz] at h20; omega))]
      exact And.intro rfl rfl
    · have h20 : l.length ≤ 20 := by rw [hsz] at h20; omega
      obtain ⟨c, r, rfl⟩ := List.exists_cons_of_ne_nil hne
      exact cut_at [(0, .string ⟨⟨c :: r⟩⟩)] ⟨rfl, trivial⟩ (r3_run hT h20)

theorem number_contract {h : Heap} {l : List UInt8} (hl : LaidN h) (hs : l.length < 4611686018427387904) : CallsH Tryz.prog 3 [.string ⟨⟨l⟩⟩] h (Ret fun r h' => r = .bool true ∧ Chg [] h h') := by
  obtain ⟨T, hT⟩ : ∃ T : Nat, T = 9223372036854775808 := ⟨_, rfl⟩
  refine f3_calls (by simp) ?_
  refine And.intro rfl (And.intro (fun hgt => ?_) (fun hle => ?_))
  · refine call_ret (known_ret h) ?_
    rintro _ h' ⟨rfl, hc⟩
    exact And.intro rfl hc
  · have hle : l.length ≤ 300 := by
      have e : ((⟨⟨l⟩⟩ : ByteArray).size : Int) = l.length := rfl
      rw [e] at hle; omega
    refine call_ret (bnum_calls hl (by omega)) ?_
    rintro _ h1 ⟨rfl, c1⟩
    refine call_ret (r8num_calls hT hs) ?_
    rintro _ h2 ⟨rfl, rfl⟩
    rw [num_eq hT]
    refine And.intro rfl (And.intro (fun _ => ?_) (fun hne => absurd rfl hne))
    refine And.intro (fun _ => ?_) (fun hne => absurd rfl hne)
    refine call_ret (known_ret _) ?_
    rintro _ h3 ⟨rfl, c3⟩
    exact And.intro rfl (c1.nil c3)

end Go.Proofs.YtigolfakcblnjaaGreatDoor
