/-
  Layer 8: a text's number, by the document's reading.
-/
import Derived.Test.YtigolfakcblnjaaGreatDoorPA
namespace Go.Proofs.YtigolfakcblnjaaGreatDoor
open Go Go.Sx Go.Proofs.YtigolfakcblnjaaGreatDoor.C Go.Num

def T63 : Nat := 9223372036854775808

def rest13 : SCode := (.seq (.seq (.ops f13r7) (.cond (.tmp 41) (.seq (.ops f13r8) .ret) .skip)) (.seq (.ops f13r9) (.seq (.seq (.ops f13r10) (.block 0 (.loop f13l19)))
  (.seq (.seq (.ops f13r20) (.cond (.tmp 72) (.seq (.ops f13r21) .ret) .skip)) (.seq (.seq (.ops f13r22) (.cond (.tmp 75) (.seq (.ops f13r23) .ret) .skip)) (.seq (.ops f13r24) .ret))))))

def numV (o : Option Int) : Value := .tuple #[.int .i64 (o.getD 0), .bool o.isSome]

theorem wrapU8 {x : Int} (h0 : 0 ≤ x) (h1 : x < 256) : IntKind.u8.wrap x = x := by
  have e : IntKind.u8.wrap x = x % 256 := by simp [IntKind.wrap, IntKind.bits, IntKind.signed]
  rw [e]; omega

theorem at_get {d : List UInt8} {q : Nat} (hq : q < d.length) : (⟨⟨d⟩⟩ : ByteArray)[q]? = some d[q] := by
  show (⟨d⟩ : Array UInt8)[q]? = _
  simp [hq]

theorem drop_at {d : List UInt8} {q : Nat} (hq : q < d.length) : d.drop q = d[q] :: d.drop (q + 1) := List.drop_eq_getElem_cons hq

theorem quo10 {T x : Nat} (h : x ≤ T) : (-(T : Int) + x).tdiv 10 = -(((T - x) / 10 : Nat) : Int) := by
  have e : (-(T : Int) + x) = -((T - x : Nat) : Int) := by omega
  rw [e, Int.neg_tdiv]
  rfl

theorem head_iff {d : List UInt8} (h : 1 < d.length) (c : UInt8) : d.head? = some c ↔ d[0]'(by omega) = c := by
  cases d with
  | nil => simp at h
  | cons x r => simp

theorem str_empty {d : List UInt8} : ((⟨⟨d⟩⟩ : ByteArray) = ⟨#[]⟩) ↔ d = [] := by
  constructor
  · intro h; injection h with h; injection h
  · rintro rfl; rfl

theorem rest13_run {T : Nat} (hT : T = 9223372036854775808) {h : Heap} {neg : Bool} {d : List UInt8} (hd : d.length ≤ 20) :
    swp Tryz.prog rest13 (retQ [.t 2, .t 3] (Ret fun r h' => r = numV (refBody T neg d) ∧ h' = h)) (mk [(4, .bool neg), (5, .string ⟨⟨d⟩⟩)]) [] h := by
  have none_ret : ∀ {r : Option Int}, r = none → numV r = .tuple #[.int .i64 0, .bool false] := by rintro _ rfl; rfl
  have main : ¬ (d = [] ∨ (1 < d.length ∧ d.head? = some 48) ∨ (neg = true ∧ d = [48])) →
      swp Tryz.prog (.seq (.ops f13r9) (.seq (.seq (.ops f13r10) (.block 0 (.loop f13l19)))
        (.seq (.seq (.ops f13r20) (.cond (.tmp 72) (.seq (.ops f13r21) .ret) .skip)) (.seq (.seq (.ops f13r22) (.cond (.tmp 75) (.seq (.ops f13r23) .ret) .skip)) (.seq (.ops f13r24) .ret)))))
        (retQ [.t 2, .t 3] (Ret fun r h' => r = numV (refBody T neg d) ∧ h' = h)) (mk [(4, .bool neg), (5, .string ⟨⟨d⟩⟩)]) [] h := by
    intro hb
    have eb : refBody T neg d = refTail T neg d := by unfold refBody; rw [if_neg hb]
    rw [eb]
    have nn : ∀ {r : Option Nat}, runD T 0 d = r → r = none → numV (refTail T neg d) = .tuple #[.int .i64 0, .bool false] := by
      rintro _ h1 rfl
      unfold refTail
      rw [h1]; rfl
    refine loop_intro (fun p : Nat × Nat => [(4, .bool neg), (5, .string ⟨⟨d⟩⟩), (6, .int .i64 (-(p.2 : Int))), (7, .int .i64 p.1)]) (fun p h' => p.1 ≤ d.length ∧ h' = h ∧ p.2 ≤ T ∧ runD T 0 d = runD T p.2 (d.drop p.1)) (fun p => d.length - p.1) (0, 0)
      ⟨rfl, rfl, rfl, rfl, trivial⟩ ⟨Nat.zero_le _, rfl, Nat.zero_le _, rfl⟩ ?_
    rintro ⟨q, m⟩ h1 ⟨hq, rfl, hm, hrun⟩
    simp only at hq hm hrun
    have hsz : ((⟨⟨d⟩⟩ : ByteArray).size : Int) = d.length := rfl
    refine And.intro rfl (And.intro (fun hlt => ?_) (fun hge => ?_))
    · have hlt : q < d.length := by simp only at hlt; omega
      have hc := at_get hlt
      have hdr := drop_at hlt
      obtain ⟨c, hcc⟩ : ∃ c, c = d[q] := ⟨_, rfl⟩
      rw [← hcc] at hc hdr
      rw [hdr, runD_cons] at hrun
      refine Exists.intro c (And.intro (by simp only; omega) (And.intro (by simpa using hc) ?_))
      refine And.intro rfl (And.intro (fun h48 => ?_) (fun h48 => ?_))
      · rw [if_neg (by omega)] at hrun
        rw [nn hrun rfl]
        exact And.intro rfl rfl
      · refine Exists.intro c (And.intro (by simp only; omega) (And.intro (by simpa using hc) ?_))
        refine And.intro rfl (And.intro (fun h57 => ?_) (fun h57 => ?_))
        · rw [if_neg (by omega)] at hrun
          rw [nn hrun rfl]
          exact And.intro rfl rfl
        · rw [if_pos ⟨by omega, by omega⟩] at hrun
          refine Exists.intro c (And.intro (by simp only; omega) (And.intro (by simpa using hc) ?_))
          refine And.intro rfl (fun z hz => ?_)
          have hz : z = ((c.toNat - 48 : Nat) : Int) := by
            have e : z = IntKind.u8.wrap ((c.toNat : Int) - 48) := hz
            rw [e, wrapU8 (by omega) (by omega)]; omega
          subst hz
          refine fun z2 hz2 => ?_
          have hz2 : z2 = ((c.toNat - 48 : Nat) : Int) := by rw [hz2]; exact wrap_in (by omega) (by omega)
          subst hz2
          have hx : c.toNat - 48 ≤ 9 := by omega
          obtain ⟨x, hxe⟩ : ∃ x, x = c.toNat - 48 := ⟨_, rfl⟩
          have hnx : nxt m c = m * 10 + x := by rw [nxt_eq, hxe]
          rw [hnx] at hrun
          rw [← hxe] at hx ⊢
          refine And.intro rfl (fun z3 hz3 => ?_)
          have hz3 : z3 = -(T : Int) + x := by
            have := add_in hz3 (by omega) (by omega)
            rw [this]; omega
          subst hz3
          refine And.intro rfl (And.intro (by decide) (fun z4 hz4 => ?_))
          have hz4 : z4 = -(((T - x) / 10 : Nat) : Int) := by
            rw [hz4, quo10 (by omega)]
            exact wrap_in (by omega) (by omega)
          subst hz4
          refine And.intro rfl (And.intro (fun hover => ?_) (fun hok => ?_))
          · simp only at hover
            rw [if_pos (by omega)] at hrun
            rw [nn hrun rfl]
            exact And.intro rfl rfl
          · simp only at hok
            rw [if_neg (by omega)] at hrun
            refine And.intro rfl (fun z5 hz5 => ?_)
            have hz5 : z5 = -((m * 10 : Nat) : Int) := by
              have e : z5 = IntKind.i64.wrap (-(m : Int) * 10) := hz5
              rw [e, wrap_in (by omega) (by omega)]; omega
            subst hz5
            refine And.intro rfl (fun z6 hz6 => ?_)
            have hz6 : z6 = -((m * 10 + x : Nat) : Int) := by
              have := sub_in hz6 (by omega) (by omega)
              rw [this]; omega
            subst hz6
            refine And.intro rfl (fun z7 hz7 => ?_)
            have hz7 := add_in hz7 (by simp only; omega) (by simp only; omega)
            subst hz7
            exact And.intro rfl (Exists.intro (q + 1, m * 10 + x) (And.intro ⟨rfl, rfl, rfl, rfl, trivial⟩ (And.intro ⟨hlt, rfl, by simp only; omega, hrun⟩ (by simp only; omega))))
    · have hge : q = d.length := by simp only at hge; omega
      subst hge
      rw [List.drop_length, runD_nil] at hrun
      have et : refTail T neg d = if neg then some (-(m : Int)) else if m = T then none else some m := by unfold refTail; rw [hrun]
      cases neg with
      | true =>
        rw [et]
        exact And.intro rfl rfl
      | false =>
        refine And.intro rfl (And.intro (fun he => ?_) (fun hne => ?_))
        · have : m = T := by simp only at he; omega
          rw [et]
          simp only [Bool.false_eq_true, if_false, if_pos this]
          exact And.intro rfl rfl
        · have hmne : m ≠ T := by simp only at hne; omega
          refine fun z hz => ?_
          have hz : z = (m : Int) := by
            rw [hz, wrap_in (by simp only; omega) (by simp only; omega)]; simp only; omega
          subst hz
          rw [et]
          simp only [Bool.false_eq_true, if_false, if_neg hmne]
          exact And.intro rfl rfl
  have dead : (d = [] ∨ (1 < d.length ∧ d.head? = some 48) ∨ (neg = true ∧ d = [48])) → numV (refBody T neg d) = .tuple #[.int .i64 0, .bool false] := fun hb => by
    unfold refBody; rw [if_pos hb]; rfl
  have cut : ∀ {σ : Env}, ¬ (d = [] ∨ (1 < d.length ∧ d.head? = some 48) ∨ (neg = true ∧ d = [48])) → σ 4 = some (.bool neg) → σ 5 = some (.string ⟨⟨d⟩⟩) → _ := fun {σ} hb h4 h5 => cut_at (σ := σ) [(4, .bool neg), (5, .string ⟨⟨d⟩⟩)] ⟨h4, h5, trivial⟩ (main hb)
  refine And.intro (fun he => ?_) (fun hne => ?_)
  · rw [dead (.inl (str_empty.1 he))]
    exact And.intro rfl rfl
  · have hne : d ≠ [] := fun e => hne (str_empty.2 e)
    have hpos := List.length_pos_iff.2 hne
    refine And.intro rfl (And.intro (fun h1 => ?_) (fun h1 => ?_))
    · have h1 : 1 < d.length := by
        have e : ((⟨⟨d⟩⟩ : ByteArray).size : Int) = d.length := rfl
        rw [e] at h1; omega
      refine Exists.intro d[0] (And.intro (by decide) (And.intro (at_get (by omega)) ?_))
      refine And.intro rfl (And.intro (fun h48 => ?_) (fun h48 => ?_))
      · have : d.head? = some 48 := (head_iff h1 48).2 (UInt8.toNat_inj.1 (by have h48 : (d[0].toNat : Int) = 48 := h48; show d[0].toNat = 48; omega))
        rw [dead (.inr (.inl ⟨h1, this⟩))]
        exact And.intro rfl rfl
      · have hh : ¬ d.head? = some 48 := fun e => h48 (by rw [(head_iff h1 48).1 e]; rfl)
        cases neg with
        | true =>
          refine And.intro (fun he => ?_) (fun hne2 => ?_)
          · have : d = [48] := by injection he with he; injection he
            rw [dead (.inr (.inr ⟨rfl, this⟩))]
            exact And.intro rfl rfl
          · refine cut ?_ rfl rfl
            rintro (h | ⟨_, h⟩ | ⟨_, h⟩)
            · exact hne h
            · exact hh h
            · rw [h] at h1; simp at h1
        | false =>
          refine cut ?_ rfl rfl
          rintro (h | ⟨_, h⟩ | ⟨h, _⟩)
          · exact hne h
          · exact hh h
          · cases h
    · have h1 : ¬ 1 < d.length := by
        have e : ((⟨⟨d⟩⟩ : ByteArray).size : Int) = d.length := rfl
        rw [e] at h1; omega
      cases neg with
      | true =>
        refine And.intro (fun he => ?_) (fun hne2 => ?_)
        · have : d = [48] := by injection he with he; injection he
          rw [dead (.inr (.inr ⟨rfl, this⟩))]
          exact And.intro rfl rfl
        · refine cut ?_ rfl rfl
          rintro (h | ⟨h, _⟩ | ⟨_, h⟩)
          · exact hne h
          · exact h1 h
          · subst h; exact hne2 rfl
      | false =>
        refine cut ?_ rfl rfl
        rintro (h | ⟨h, _⟩ | ⟨h, _⟩)
        · exact hne h
        · exact h1 h
        · cases h

end Go.Proofs.YtigolfakcblnjaaGreatDoor
