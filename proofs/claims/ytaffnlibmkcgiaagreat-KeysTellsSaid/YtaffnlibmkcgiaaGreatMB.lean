/-
  Layer 7: the reference's pairs, members, ranks (printed by genref.py).
  Layer 7: the reference's uses, kind, Count, Drop (printed by genuse.py).
  Layer 7: the reference's done (printed by gendone.py).
  Layer 7: a list of things behind an effect: plain laws.
  Layer 7: the reference's One (printed by genrone.py).
  Layer 7: the reference's Apply.
  Layer 7: the law of effects (taborlaw07.KeysApply).
  Layer 7: what stands there and is not gone: Get, the reference's Names.
  Layer 7: keys' Names and Size.
  Layer 7: the law of what is told (taborlaw07.KeysTells) (printed by gentells.py).
-/
import Derived.Test.YtaffnlibmkcgiaaGreatMA
import Derived.Test.YtaffnlibmkcgiaaGreatCodeB
namespace Go.Proofs.YtaffnlibmkcgiaaGreat
open Go Go.Sx Go.Proofs.YtaffnlibmkcgiaaGreat.C

section
variable {α : Type}

def goF (put : Bool) (eq lt : α → Bool) (y : α) : List α → Bool → List α
  | [], d => if put && !d then [y] else []
  | x :: l, d => if eq x then goF put eq lt y l d else if put && !d && lt x then y :: x :: goF put eq lt y l true else x :: goF put eq lt y l d

theorem goF_put {eq lt : α → Bool} {y : α} : ∀ (l : List α) (d : Bool), goF true eq lt y l d = putF eq lt y l d
  | [], d => by cases d <;> rfl
  | x :: l, d => by
    simp only [goF, putF, goF_put l d, goF_put l true, Bool.true_and]

theorem goF_del {eq lt : α → Bool} {y : α} : ∀ (l : List α) (d : Bool), goF false eq lt y l d = delF eq l
  | [], d => rfl
  | x :: l, d => by
    simp only [goF, goF_del l d, goF_del l true, Bool.false_and, Bool.false_eq_true, if_false]
    cases he : eq x <;> simp [delF, he]

end

theorem members_calls {h : Heap} {v : Value} {l : List ByteArray} (name : ByteArray) (put : Bool) (hv : SL encS h v l) (hl : l.length ≤ 70000) (hn : name.size < 4611686018427387904) (hf : ∀ x ∈ l, x.size < 4611686018427387904) :
    CallsH Tryz.prog 65 [v, .string name, .bool put] h
      (Ret fun r h' => (∃ u, r = .tuple #[u, .bool (l.any fun x => decide (x = name))] ∧ OL encS 1 h' u (goF put (fun x => decide (x = name)) (fun x => sless name x) name l false) ∧ ∀ b ∈ vblk u, h.size ≤ b) ∧ Chg [] h h') := by
  obtain ⟨a, c, rfl, hlc⟩ := hv.form
  refine f65_calls (by simp) ?_
  have hv0 := hv
  have hc0 : Chg [] h h := Chg.refl h
  obtain ⟨eq, heq⟩ : ∃ eq : ByteArray → Bool, eq = fun x => decide (x = name) := ⟨_, rfl⟩
  obtain ⟨lt, hlt⟩ : ∃ lt : ByteArray → Bool, lt = fun x => sless name x := ⟨_, rfl⟩
  rw [← heq, ← hlt]
  have sh := hc0.size
  refine loop_intro (fun i : Nat × Bool × Bool × List ByteArray × Option Addr × Nat => [(0, .slice a l.length c), (1, .string name), (2, .bool put), (8, .slice i.2.2.2.2.1 i.2.2.2.1.length i.2.2.2.2.2), (9, .bool i.2.1), (10, .bool i.2.2.1), (11, .int .i64 i.1)])
    (fun i h' => i.1 ≤ l.length ∧ Chg [] h h' ∧ OL encS 1 h' (.slice i.2.2.2.2.1 i.2.2.2.1.length i.2.2.2.2.2) i.2.2.2.1 ∧ (∀ b ∈ ablk i.2.2.2.2.1, h.size ≤ b) ∧ i.2.2.2.1.length ≤ i.1 + i.2.2.1.toNat ∧
      goF put eq lt name l false = i.2.2.2.1 ++ goF put eq lt name (l.drop i.1) i.2.2.1 ∧ l.any eq = (i.2.1 || (l.drop i.1).any eq)) (fun i => l.length - i.1) (0, false, false, [], none, 0)
    ⟨rfl, rfl, rfl, rfl, rfl, rfl, rfl, trivial⟩ ⟨Nat.zero_le _, Chg.refl h, OL.nil, by simp [ablk], by simp, rfl, rfl⟩ ?_
  rintro ⟨k, th, d, A, a2, c2⟩ h1 ⟨hk, hc1, ho, hfr, hal, hgo, hany⟩
  simp only at hk ho hfr hal hgo hany
  have hv1 := hv0.ext hc1
  refine And.intro rfl (And.intro (fun ht => ?_) (fun ht => ?_))
  · have hltk : k < l.length := by omega
    obtain ⟨b, o, rfl⟩ := hv1.addr (by omega)
    have hcs := hv1.cells encS_len (i := k) (x := l[k]) (by simp [hltk])
    have hdr : l.drop k = l[k] :: l.drop (k + 1) := List.drop_eq_getElem_cons hltk
    rw [hdr, goF] at hgo
    rw [hdr, List.any_cons] at hany
    refine And.intro (by omega) (And.intro (by omega) (Exists.intro _ (And.intro (hcs 0 _ rfl) ?_)))
    refine And.intro (fun he => ?_) (fun hne => ?_)
    · have e1 : eq l[k] = true := by rw [heq]; simpa using he
      rw [e1] at hgo hany
      refine And.intro rfl (fun z hz => ?_)
      have hz := add_in hz (by omega) (by omega)
      subst hz
      refine And.intro rfl (Exists.intro (k + 1, true, d, A, a2, c2) (And.intro ?_ (And.intro ?_ ?_)))
      · exact ⟨rfl, rfl, rfl, rfl, rfl, rfl, rfl, trivial⟩
      · exact ⟨by simp only; omega, hc1, ho, hfr, by simp only; omega, by simpa using hgo, by simpa using hany⟩
      · simp only; omega
    · have e1 : eq l[k] = false := by rw [heq]; simpa using hne
      rw [e1] at hgo hany
      simp only [Bool.false_eq_true, if_false, Bool.false_or] at hgo hany
      have keep : (put && !d && lt l[k]) = false → goF put eq lt name l false = A ++ l[k] :: goF put eq lt name (l.drop (k + 1)) d := fun hb => by rw [hb] at hgo; simpa using hgo
      have hany3 := hany
      cases hp : put with
      | false =>
        subst hp
        have hgo3 := keep rfl
        have hcsE := (hv0.ext hc1).cells encS_len (i := k) (x := l[k]) (by simp [hltk])
        refine And.intro (by omega) (And.intro (by omega) (Exists.intro _ (And.intro (hcsE 0 _ rfl) ?_)))
        intro b6 h13 g13
        have B6 : Blk h13 b6 (encS l[k]) := g13.blk
        refine app_own encS_len encS_one rfl (ho.ext g13.chg) (SL.one encS_len B6) (by have := hal; have := Bool.toNat_le d; simp only [List.length_append, List.length_cons, List.length_nil, Bool.toNat_true, Bool.toNat_false] at *; omega) ?_
        intro v14 h14 ho14 hc14 hb14
        have hfr14 : ∀ b ∈ vblk v14, h.size ≤ b := fun b' hb' => by
          rcases hb14 b' hb' with h | h
          · exact hfr b' h
          · have := hc1.size; have := g13.size; omega
        have hc014 : Chg [] h h14 := (hc1.nil g13.chg).fresh hc14 hfr
        obtain ⟨a14, c14, rfl, _⟩ := ho14.form
        refine And.intro rfl (fun z hz => ?_)
        have hz := add_in hz (by omega) (by omega)
        subst hz
        refine And.intro rfl (Exists.intro (k + 1, th, d, A ++ [l[k]], a14, c14) (And.intro ?_ (And.intro ?_ ?_)))
        · exact ⟨rfl, rfl, rfl, rfl, rfl, rfl, rfl, trivial⟩
        · exact ⟨by simp only; omega, hc014, ho14, hfr14, by have := hal; have := Bool.toNat_le d; simp only [List.length_append, List.length_cons, List.length_nil, Bool.toNat_true, Bool.toNat_false] at *; omega, by rw [hgo3]; simp, hany3⟩
        · simp only; omega
      | true =>
        cases hd : d with
        | true =>
          subst hp hd
          have hgo3 := keep rfl
          have hcsE := (hv0.ext hc1).cells encS_len (i := k) (x := l[k]) (by simp [hltk])
          refine And.intro (by omega) (And.intro (by omega) (Exists.intro _ (And.intro (hcsE 0 _ rfl) ?_)))
          intro b6 h13 g13
          have B6 : Blk h13 b6 (encS l[k]) := g13.blk
          refine app_own encS_len encS_one rfl (ho.ext g13.chg) (SL.one encS_len B6) (by have := hal; have := Bool.toNat_le true; simp only [List.length_append, List.length_cons, List.length_nil, Bool.toNat_true, Bool.toNat_false] at *; omega) ?_
          intro v14 h14 ho14 hc14 hb14
          have hfr14 : ∀ b ∈ vblk v14, h.size ≤ b := fun b' hb' => by
            rcases hb14 b' hb' with h | h
            · exact hfr b' h
            · have := hc1.size; have := g13.size; omega
          have hc014 : Chg [] h h14 := (hc1.nil g13.chg).fresh hc14 hfr
          obtain ⟨a14, c14, rfl, _⟩ := ho14.form
          refine And.intro rfl (fun z hz => ?_)
          have hz := add_in hz (by omega) (by omega)
          subst hz
          refine And.intro rfl (Exists.intro (k + 1, th, true, A ++ [l[k]], a14, c14) (And.intro ?_ (And.intro ?_ ?_)))
          · exact ⟨rfl, rfl, rfl, rfl, rfl, rfl, rfl, trivial⟩
          · exact ⟨by simp only; omega, hc014, ho14, hfr14, by have := hal; have := Bool.toNat_le true; simp only [List.length_append, List.length_cons, List.length_nil, Bool.toNat_true, Bool.toNat_false] at *; omega, by rw [hgo3]; simp, hany3⟩
          · simp only; omega
        | false =>
          subst hp hd
          have hcs' := hv1.cells encS_len (i := k) (x := l[k]) (by simp [hltk])
          refine And.intro (by omega) (And.intro (by omega) (Exists.intro _ (And.intro (hcs' 0 _ rfl) ?_)))
          refine call_ret (Less_calls name l[k] hn (hf _ (List.getElem_mem hltk))) ?_
          rintro r2 h9 ⟨hr, e9⟩
          have e9 := e9.symm
          subst e9
          cases hs : sless name l[k] with
          | false =>
            rw [hs] at hr
            subst hr
            have hlf : lt l[k] = false := by rw [hlt]; exact hs
            have hgo3 := keep (by rw [hlf]; rfl)
            have hcsE := (hv0.ext hc1).cells encS_len (i := k) (x := l[k]) (by simp [hltk])
            refine And.intro (by omega) (And.intro (by omega) (Exists.intro _ (And.intro (hcsE 0 _ rfl) ?_)))
            intro b6 h13 g13
            have B6 : Blk h13 b6 (encS l[k]) := g13.blk
            refine app_own encS_len encS_one rfl (ho.ext g13.chg) (SL.one encS_len B6) (by have := hal; have := Bool.toNat_le false; simp only [List.length_append, List.length_cons, List.length_nil, Bool.toNat_true, Bool.toNat_false] at *; omega) ?_
            intro v14 h14 ho14 hc14 hb14
            have hfr14 : ∀ b ∈ vblk v14, h.size ≤ b := fun b' hb' => by
              rcases hb14 b' hb' with h | h
              · exact hfr b' h
              · have := hc1.size; have := g13.size; omega
            have hc014 : Chg [] h h14 := (hc1.nil g13.chg).fresh hc14 hfr
            obtain ⟨a14, c14, rfl, _⟩ := ho14.form
            refine And.intro rfl (fun z hz => ?_)
            have hz := add_in hz (by omega) (by omega)
            subst hz
            refine And.intro rfl (Exists.intro (k + 1, th, false, A ++ [l[k]], a14, c14) (And.intro ?_ (And.intro ?_ ?_)))
            · exact ⟨rfl, rfl, rfl, rfl, rfl, rfl, rfl, trivial⟩
            · exact ⟨by simp only; omega, hc014, ho14, hfr14, by have := hal; have := Bool.toNat_le false; simp only [List.length_append, List.length_cons, List.length_nil, Bool.toNat_true, Bool.toNat_false] at *; omega, by rw [hgo3]; simp, hany3⟩
            · simp only; omega
          | true =>
            rw [hs] at hr
            subst hr
            have hlf : lt l[k] = true := by rw [hlt]; exact hs
            rw [hlf] at hgo
            intro b5 h3 g3
            have B5 : Blk h3 b5 (encS name) := g3.blk
            refine app_own encS_len encS_one rfl (ho.ext g3.chg) (SL.one encS_len B5) (by have := hal; simp only [List.length_cons, List.length_nil, Bool.toNat_true, Bool.toNat_false] at this ⊢; omega) ?_
            intro v4 h4 ho4 hc4 hb4
            have hfr4 : ∀ b ∈ vblk v4, h.size ≤ b := fun b' hb' => by
              rcases hb4 b' hb' with h | h
              · exact hfr b' h
              · have := hc1.size; have := g3.size; omega
            have hc04 : Chg [] h h4 := (hc1.nil g3.chg).fresh hc4 hfr
            obtain ⟨a4, c4, rfl, _⟩ := ho4.form
            have hald : (A ++ [name]).length ≤ k + true.toNat := by have := hal; simp only [List.length_append, List.length_cons, List.length_nil, Bool.toNat_true, Bool.toNat_false] at this ⊢; omega
            have hgo3 : goF true eq lt name l false = (A ++ [name]) ++ l[k] :: goF true eq lt name (l.drop (k + 1)) true := by simpa using hgo
            have hcsE := (hv0.ext hc04).cells encS_len (i := k) (x := l[k]) (by simp [hltk])
            refine And.intro (by omega) (And.intro (by omega) (Exists.intro _ (And.intro (hcsE 0 _ rfl) ?_)))
            intro b6 h13 g13
            have B6 : Blk h13 b6 (encS l[k]) := g13.blk
            refine app_own encS_len encS_one rfl (ho4.ext g13.chg) (SL.one encS_len B6) (by have := hald; have := Bool.toNat_le true; simp only [List.length_append, List.length_cons, List.length_nil, Bool.toNat_true, Bool.toNat_false] at *; omega) ?_
            intro v14 h14 ho14 hc14 hb14
            have hfr14 : ∀ b ∈ vblk v14, h.size ≤ b := fun b' hb' => by
              rcases hb14 b' hb' with h | h
              · exact hfr4 b' h
              · have := hc04.size; have := g13.size; omega
            have hc014 : Chg [] h h14 := (hc04.nil g13.chg).fresh hc14 hfr4
            obtain ⟨a14, c14, rfl, _⟩ := ho14.form
            refine And.intro rfl (fun z hz => ?_)
            have hz := add_in hz (by omega) (by omega)
            subst hz
            refine And.intro rfl (Exists.intro (k + 1, th, true, (A ++ [name]) ++ [l[k]], a14, c14) (And.intro ?_ (And.intro ?_ ?_)))
            · exact ⟨rfl, rfl, rfl, rfl, rfl, rfl, rfl, trivial⟩
            · exact ⟨by simp only; omega, hc014, ho14, hfr14, by have := hald; have := Bool.toNat_le true; simp only [List.length_append, List.length_cons, List.length_nil, Bool.toNat_true, Bool.toNat_false] at *; omega, by rw [hgo3]; simp, hany3⟩
            · simp only; omega
  · have hkl : k = l.length := by omega
    subst hkl
    rw [List.drop_length, goF] at hgo
    rw [List.drop_length, List.any_nil, Bool.or_false] at hany
    have fin : put = false ∨ d = true → goF put eq lt name l false = A := fun h => by
      rw [hgo]
      rcases h with h | h
      · rw [h]; simp
      · rw [h]; simp
    rw [hany]
    cases hp : put with
    | false =>
      subst hp
      rw [fin (.inl rfl)]
      exact And.intro (Exists.intro _ (And.intro rfl (And.intro ho (fun b hb => by have := hfr b hb; omega)))) (hc0.nil hc1)
    | true =>
      cases hd : d with
      | true =>
        subst hp hd
        rw [fin (.inr rfl)]
        exact And.intro (Exists.intro _ (And.intro rfl (And.intro ho (fun b hb => by have := hfr b hb; omega)))) (hc0.nil hc1)
      | false =>
        subst hp hd
        intro b5 h3 g3
        have B5 : Blk h3 b5 (encS name) := g3.blk
        refine app_own encS_len encS_one rfl (ho.ext g3.chg) (SL.one encS_len B5) (by have := hal; simp only [List.length_cons, List.length_nil, Bool.toNat_true, Bool.toNat_false] at this ⊢; omega) ?_
        intro v4 h4 ho4 hc4 hb4
        have e4 : goF true eq lt name l false = A ++ [name] := by rw [hgo]; rfl
        rw [e4]
        refine And.intro (Exists.intro _ (And.intro rfl (And.intro ho4 (fun b' hb' => ?_)))) (hc0.nil ((hc1.nil g3.chg).fresh hc4 hfr))
        rcases hb4 b' hb' with h | h
        · have := hfr b' h; omega
        · have := hc1.size; have := g3.size; omega

theorem pairsR_calls {h : Heap} {v : Value} {l : List Pair} (name text : ByteArray) (put : Bool) (hv : SL encP h v l) (hl : l.length ≤ 70000) (hn : name.size < 4611686018427387904) (hf : ∀ x ∈ l, x.name.size < 4611686018427387904) :
    CallsH Tryz.prog 64 [v, .string name, .string text, .bool put] h
      (Ret fun r h' => (∃ u, r = .tuple #[u, .bool (l.any fun x => decide (x.name = name))] ∧ OL encP 2 h' u (goF put (fun x => decide (x.name = name)) (fun x => sless name x.name) (⟨name, text⟩ : Pair) l false) ∧ ∀ b ∈ vblk u, h.size ≤ b) ∧ Chg [] h h') := by
  obtain ⟨a, c, rfl, hlc⟩ := hv.form
  refine f64_calls (by simp) ?_
  have hv0 := hv
  have hc0 : Chg [] h h := Chg.refl h
  obtain ⟨eq, heq⟩ : ∃ eq : Pair → Bool, eq = fun x => decide (x.name = name) := ⟨_, rfl⟩
  obtain ⟨lt, hlt⟩ : ∃ lt : Pair → Bool, lt = fun x => sless name x.name := ⟨_, rfl⟩
  rw [← heq, ← hlt]
  have sh := hc0.size
  refine loop_intro (fun i : Nat × Bool × Bool × List Pair × Option Addr × Nat => [(0, .slice a l.length c), (1, .string name), (2, .string text), (3, .bool put), (10, .slice i.2.2.2.2.1 i.2.2.2.1.length i.2.2.2.2.2), (11, .bool i.2.1), (12, .bool i.2.2.1), (13, .int .i64 i.1)])
    (fun i h' => i.1 ≤ l.length ∧ Chg [] h h' ∧ OL encP 2 h' (.slice i.2.2.2.2.1 i.2.2.2.1.length i.2.2.2.2.2) i.2.2.2.1 ∧ (∀ b ∈ ablk i.2.2.2.2.1, h.size ≤ b) ∧ i.2.2.2.1.length ≤ i.1 + i.2.2.1.toNat ∧
      goF put eq lt (⟨name, text⟩ : Pair) l false = i.2.2.2.1 ++ goF put eq lt (⟨name, text⟩ : Pair) (l.drop i.1) i.2.2.1 ∧ l.any eq = (i.2.1 || (l.drop i.1).any eq)) (fun i => l.length - i.1) (0, false, false, [], none, 0)
    ⟨rfl, rfl, rfl, rfl, rfl, rfl, rfl, rfl, trivial⟩ ⟨Nat.zero_le _, Chg.refl h, OL.nil, by simp [ablk], by simp, rfl, rfl⟩ ?_
  rintro ⟨k, th, d, A, a2, c2⟩ h1 ⟨hk, hc1, ho, hfr, hal, hgo, hany⟩
  simp only at hk ho hfr hal hgo hany
  have hv1 := hv0.ext hc1
  refine And.intro rfl (And.intro (fun ht => ?_) (fun ht => ?_))
  · have hltk : k < l.length := by omega
    obtain ⟨b, o, rfl⟩ := hv1.addr (by omega)
    have hcs := hv1.cells encP_len (i := k) (x := l[k]) (by simp [hltk])
    have hdr : l.drop k = l[k] :: l.drop (k + 1) := List.drop_eq_getElem_cons hltk
    rw [hdr, goF] at hgo
    rw [hdr, List.any_cons] at hany
    refine And.intro (by omega) (And.intro (by omega) (Exists.intro _ (And.intro (hcs 0 _ rfl) ?_)))
    refine And.intro (fun he => ?_) (fun hne => ?_)
    · have e1 : eq l[k] = true := by rw [heq]; simpa using he
      rw [e1] at hgo hany
      refine And.intro rfl (fun z hz => ?_)
      have hz := add_in hz (by omega) (by omega)
      subst hz
      refine And.intro rfl (Exists.intro (k + 1, true, d, A, a2, c2) (And.intro ?_ (And.intro ?_ ?_)))
      · exact ⟨rfl, rfl, rfl, rfl, rfl, rfl, rfl, rfl, trivial⟩
      · exact ⟨by simp only; omega, hc1, ho, hfr, by simp only; omega, by simpa using hgo, by simpa using hany⟩
      · simp only; omega
    · have e1 : eq l[k] = false := by rw [heq]; simpa using hne
      rw [e1] at hgo hany
      simp only [Bool.false_eq_true, if_false, Bool.false_or] at hgo hany
      have keep : (put && !d && lt l[k]) = false → goF put eq lt (⟨name, text⟩ : Pair) l false = A ++ l[k] :: goF put eq lt (⟨name, text⟩ : Pair) (l.drop (k + 1)) d := fun hb => by rw [hb] at hgo; simpa using hgo
      have hany3 := hany
      cases hp : put with
      | false =>
        subst hp
        have hgo3 := keep rfl
        have hcsE := (hv0.ext hc1).cells encP_len (i := k) (x := l[k]) (by simp [hltk])
        refine And.intro (by omega) (And.intro (by omega) (Exists.intro (encP l[k]) (And.intro rfl (And.intro hcsE ?_))))
        intro b6 h13 g13
        have B6 : Blk h13 b6 (encP l[k]) := g13.blk
        refine app_own encP_len encP_one rfl (ho.ext g13.chg) (SL.one encP_len B6) (by have := hal; have := Bool.toNat_le d; simp only [List.length_append, List.length_cons, List.length_nil, Bool.toNat_true, Bool.toNat_false] at *; omega) ?_
        intro v14 h14 ho14 hc14 hb14
        have hfr14 : ∀ b ∈ vblk v14, h.size ≤ b := fun b' hb' => by
          rcases hb14 b' hb' with h | h
          · exact hfr b' h
          · have := hc1.size; have := g13.size; omega
        have hc014 : Chg [] h h14 := (hc1.nil g13.chg).fresh hc14 hfr
        obtain ⟨a14, c14, rfl, _⟩ := ho14.form
        refine And.intro rfl (fun z hz => ?_)
        have hz := add_in hz (by omega) (by omega)
        subst hz
        refine And.intro rfl (Exists.intro (k + 1, th, d, A ++ [l[k]], a14, c14) (And.intro ?_ (And.intro ?_ ?_)))
        · exact ⟨rfl, rfl, rfl, rfl, rfl, rfl, rfl, rfl, trivial⟩
        · exact ⟨by simp only; omega, hc014, ho14, hfr14, by have := hal; have := Bool.toNat_le d; simp only [List.length_append, List.length_cons, List.length_nil, Bool.toNat_true, Bool.toNat_false] at *; omega, by rw [hgo3]; simp, hany3⟩
        · simp only; omega
      | true =>
        cases hd : d with
        | true =>
          subst hp hd
          have hgo3 := keep rfl
          have hcsE := (hv0.ext hc1).cells encP_len (i := k) (x := l[k]) (by simp [hltk])
          refine And.intro (by omega) (And.intro (by omega) (Exists.intro (encP l[k]) (And.intro rfl (And.intro hcsE ?_))))
          intro b6 h13 g13
          have B6 : Blk h13 b6 (encP l[k]) := g13.blk
          refine app_own encP_len encP_one rfl (ho.ext g13.chg) (SL.one encP_len B6) (by have := hal; have := Bool.toNat_le true; simp only [List.length_append, List.length_cons, List.length_nil, Bool.toNat_true, Bool.toNat_false] at *; omega) ?_
          intro v14 h14 ho14 hc14 hb14
          have hfr14 : ∀ b ∈ vblk v14, h.size ≤ b := fun b' hb' => by
            rcases hb14 b' hb' with h | h
            · exact hfr b' h
            · have := hc1.size; have := g13.size; omega
          have hc014 : Chg [] h h14 := (hc1.nil g13.chg).fresh hc14 hfr
          obtain ⟨a14, c14, rfl, _⟩ := ho14.form
          refine And.intro rfl (fun z hz => ?_)
          have hz := add_in hz (by omega) (by omega)
          subst hz
          refine And.intro rfl (Exists.intro (k + 1, th, true, A ++ [l[k]], a14, c14) (And.intro ?_ (And.intro ?_ ?_)))
          · exact ⟨rfl, rfl, rfl, rfl, rfl, rfl, rfl, rfl, trivial⟩
          · exact ⟨by simp only; omega, hc014, ho14, hfr14, by have := hal; have := Bool.toNat_le true; simp only [List.length_append, List.length_cons, List.length_nil, Bool.toNat_true, Bool.toNat_false] at *; omega, by rw [hgo3]; simp, hany3⟩
          · simp only; omega
        | false =>
          subst hp hd
          have hcs' := hv1.cells encP_len (i := k) (x := l[k]) (by simp [hltk])
          refine And.intro (by omega) (And.intro (by omega) (Exists.intro _ (And.intro (hcs' 0 _ rfl) ?_)))
          refine call_ret (Less_calls name l[k].name hn (hf _ (List.getElem_mem hltk))) ?_
          rintro r2 h9 ⟨hr, e9⟩
          have e9 := e9.symm
          subst e9
          cases hs : sless name l[k].name with
          | false =>
            rw [hs] at hr
            subst hr
            have hlf : lt l[k] = false := by rw [hlt]; exact hs
            have hgo3 := keep (by rw [hlf]; rfl)
            have hcsE := (hv0.ext hc1).cells encP_len (i := k) (x := l[k]) (by simp [hltk])
            refine And.intro (by omega) (And.intro (by omega) (Exists.intro (encP l[k]) (And.intro rfl (And.intro hcsE ?_))))
            intro b6 h13 g13
            have B6 : Blk h13 b6 (encP l[k]) := g13.blk
            refine app_own encP_len encP_one rfl (ho.ext g13.chg) (SL.one encP_len B6) (by have := hal; have := Bool.toNat_le false; simp only [List.length_append, List.length_cons, List.length_nil, Bool.toNat_true, Bool.toNat_false] at *; omega) ?_
            intro v14 h14 ho14 hc14 hb14
            have hfr14 : ∀ b ∈ vblk v14, h.size ≤ b := fun b' hb' => by
              rcases hb14 b' hb' with h | h
              · exact hfr b' h
              · have := hc1.size; have := g13.size; omega
            have hc014 : Chg [] h h14 := (hc1.nil g13.chg).fresh hc14 hfr
            obtain ⟨a14, c14, rfl, _⟩ := ho14.form
            refine And.intro rfl (fun z hz => ?_)
            have hz := add_in hz (by omega) (by omega)
            subst hz
            refine And.intro rfl (Exists.intro (k + 1, th, false, A ++ [l[k]], a14, c14) (And.intro ?_ (And.intro ?_ ?_)))
            · exact ⟨rfl, rfl, rfl, rfl, rfl, rfl, rfl, rfl, trivial⟩
            · exact ⟨by simp only; omega, hc014, ho14, hfr14, by have := hal; have := Bool.toNat_le false; simp only [List.length_append, List.length_cons, List.length_nil, Bool.toNat_true, Bool.toNat_false] at *; omega, by rw [hgo3]; simp, hany3⟩
            · simp only; omega
          | true =>
            rw [hs] at hr
            subst hr
            have hlf : lt l[k] = true := by rw [hlt]; exact hs
            rw [hlf] at hgo
            intro b5 h3 g3
            have B5 : Blk h3 b5 (encP (⟨name, text⟩ : Pair)) := g3.blk
            refine app_own encP_len encP_one rfl (ho.ext g3.chg) (SL.one encP_len B5) (by have := hal; simp only [List.length_cons, List.length_nil, Bool.toNat_true, Bool.toNat_false] at this ⊢; omega) ?_
            intro v4 h4 ho4 hc4 hb4
            have hfr4 : ∀ b ∈ vblk v4, h.size ≤ b := fun b' hb' => by
              rcases hb4 b' hb' with h | h
              · exact hfr b' h
              · have := hc1.size; have := g3.size; omega
            have hc04 : Chg [] h h4 := (hc1.nil g3.chg).fresh hc4 hfr
            obtain ⟨a4, c4, rfl, _⟩ := ho4.form
            have hald : (A ++ [(⟨name, text⟩ : Pair)]).length ≤ k + true.toNat := by have := hal; simp only [List.length_append, List.length_cons, List.length_nil, Bool.toNat_true, Bool.toNat_false] at this ⊢; omega
            have hgo3 : goF true eq lt (⟨name, text⟩ : Pair) l false = (A ++ [(⟨name, text⟩ : Pair)]) ++ l[k] :: goF true eq lt (⟨name, text⟩ : Pair) (l.drop (k + 1)) true := by simpa using hgo
            have hcsE := (hv0.ext hc04).cells encP_len (i := k) (x := l[k]) (by simp [hltk])
            refine And.intro (by omega) (And.intro (by omega) (Exists.intro (encP l[k]) (And.intro rfl (And.intro hcsE ?_))))
            intro b6 h13 g13
            have B6 : Blk h13 b6 (encP l[k]) := g13.blk
            refine app_own encP_len encP_one rfl (ho4.ext g13.chg) (SL.one encP_len B6) (by have := hald; have := Bool.toNat_le true; simp only [List.length_append, List.length_cons, List.length_nil, Bool.toNat_true, Bool.toNat_false] at *; omega) ?_
            intro v14 h14 ho14 hc14 hb14
            have hfr14 : ∀ b ∈ vblk v14, h.size ≤ b := fun b' hb' => by
              rcases hb14 b' hb' with h | h
              · exact hfr4 b' h
              · have := hc04.size; have := g13.size; omega
            have hc014 : Chg [] h h14 := (hc04.nil g13.chg).fresh hc14 hfr4
            obtain ⟨a14, c14, rfl, _⟩ := ho14.form
            refine And.intro rfl (fun z hz => ?_)
            have hz := add_in hz (by omega) (by omega)
            subst hz
            refine And.intro rfl (Exists.intro (k + 1, th, true, (A ++ [(⟨name, text⟩ : Pair)]) ++ [l[k]], a14, c14) (And.intro ?_ (And.intro ?_ ?_)))
            · exact ⟨rfl, rfl, rfl, rfl, rfl, rfl, rfl, rfl, trivial⟩
            · exact ⟨by simp only; omega, hc014, ho14, hfr14, by have := hald; have := Bool.toNat_le true; simp only [List.length_append, List.length_cons, List.length_nil, Bool.toNat_true, Bool.toNat_false] at *; omega, by rw [hgo3]; simp, hany3⟩
            · simp only; omega
  · have hkl : k = l.length := by omega
    subst hkl
    rw [List.drop_length, goF] at hgo
    rw [List.drop_length, List.any_nil, Bool.or_false] at hany
    have fin : put = false ∨ d = true → goF put eq lt (⟨name, text⟩ : Pair) l false = A := fun h => by
      rw [hgo]
      rcases h with h | h
      · rw [h]; simp
      · rw [h]; simp
    rw [hany]
    cases hp : put with
    | false =>
      subst hp
      rw [fin (.inl rfl)]
      exact And.intro (Exists.intro _ (And.intro rfl (And.intro ho (fun b hb => by have := hfr b hb; omega)))) (hc0.nil hc1)
    | true =>
      cases hd : d with
      | true =>
        subst hp hd
        rw [fin (.inr rfl)]
        exact And.intro (Exists.intro _ (And.intro rfl (And.intro ho (fun b hb => by have := hfr b hb; omega)))) (hc0.nil hc1)
      | false =>
        subst hp hd
        intro b5 h3 g3
        have B5 : Blk h3 b5 (encP (⟨name, text⟩ : Pair)) := g3.blk
        refine app_own encP_len encP_one rfl (ho.ext g3.chg) (SL.one encP_len B5) (by have := hal; simp only [List.length_cons, List.length_nil, Bool.toNat_true, Bool.toNat_false] at this ⊢; omega) ?_
        intro v4 h4 ho4 hc4 hb4
        have e4 : goF true eq lt (⟨name, text⟩ : Pair) l false = A ++ [(⟨name, text⟩ : Pair)] := by rw [hgo]; rfl
        rw [e4]
        refine And.intro (Exists.intro _ (And.intro rfl (And.intro ho4 (fun b' hb' => ?_)))) (hc0.nil ((hc1.nil g3.chg).fresh hc4 hfr))
        rcases hb4 b' hb' with h | h
        · have := hfr b' h; omega
        · have := hc1.size; have := g3.size; omega

theorem ranksR_calls {h : Heap} {v : Value} {l : List Rank} (y : Rank) (put : Bool) (hv : SL encR h v l) (hl : l.length ≤ 70000) (hn : y.name.size < 4611686018427387904) (hf : ∀ x ∈ l, x.name.size < 4611686018427387904) :
    CallsH Tryz.prog 66 [v, .agg ⟨encR y⟩, .bool put] h
      (Ret fun r h' => (∃ u, r = .tuple #[u, .bool (l.any fun x => decide (x.name = y.name))] ∧ OL encR 2 h' u (goF put (fun x => decide (x.name = y.name)) (fun x => aheadR y x) y l false) ∧ ∀ b ∈ vblk u, h.size ≤ b) ∧ Chg [] h h') := by
  obtain ⟨a, c, rfl, hlc⟩ := hv.form
  refine f66_calls (by simp) ?_
  intro b4 h0 g0
  have hc0 := g0.chg
  have hv0 := hv.ext hc0
  have B4 : Blk h0 b4 (encR y) := g0.blk
  obtain ⟨eq, heq⟩ : ∃ eq : Rank → Bool, eq = fun x => decide (x.name = y.name) := ⟨_, rfl⟩
  obtain ⟨lt, hlt⟩ : ∃ lt : Rank → Bool, lt = fun x => aheadR y x := ⟨_, rfl⟩
  rw [← heq, ← hlt]
  have sh := hc0.size
  refine loop_intro (fun i : Nat × Bool × Bool × List Rank × Option Addr × Nat => [(0, .slice a l.length c), (2, .bool put), (4, .pointer (some ⟨b4, 0, none⟩)), (8, .slice i.2.2.2.2.1 i.2.2.2.1.length i.2.2.2.2.2), (9, .bool i.2.1), (10, .bool i.2.2.1), (11, .int .i64 i.1)])
    (fun i h' => i.1 ≤ l.length ∧ Chg [] h0 h' ∧ OL encR 2 h' (.slice i.2.2.2.2.1 i.2.2.2.1.length i.2.2.2.2.2) i.2.2.2.1 ∧ (∀ b ∈ ablk i.2.2.2.2.1, h0.size ≤ b) ∧ i.2.2.2.1.length ≤ i.1 + i.2.2.1.toNat ∧
      goF put eq lt y l false = i.2.2.2.1 ++ goF put eq lt y (l.drop i.1) i.2.2.1 ∧ l.any eq = (i.2.1 || (l.drop i.1).any eq)) (fun i => l.length - i.1) (0, false, false, [], none, 0)
    ⟨rfl, rfl, rfl, rfl, rfl, rfl, rfl, trivial⟩ ⟨Nat.zero_le _, Chg.refl h0, OL.nil, by simp [ablk], by simp, rfl, rfl⟩ ?_
  rintro ⟨k, th, d, A, a2, c2⟩ h1 ⟨hk, hc1, ho, hfr, hal, hgo, hany⟩
  simp only at hk ho hfr hal hgo hany
  have hv1 := hv0.ext hc1
  refine And.intro rfl (And.intro (fun ht => ?_) (fun ht => ?_))
  · have hltk : k < l.length := by omega
    obtain ⟨b, o, rfl⟩ := hv1.addr (by omega)
    have hcs := hv1.cells encR_len (i := k) (x := l[k]) (by simp [hltk])
    have hdr : l.drop k = l[k] :: l.drop (k + 1) := List.drop_eq_getElem_cons hltk
    rw [hdr, goF] at hgo
    rw [hdr, List.any_cons] at hany
    refine And.intro (by omega) (And.intro (by omega) (Exists.intro _ (And.intro (hcs 0 _ rfl) ?_)))
    refine Exists.intro _ (And.intro (cell_blk (B4.chg hc1 (by simp)) rfl) ?_)
    refine And.intro (fun he => ?_) (fun hne => ?_)
    · have e1 : eq l[k] = true := by rw [heq]; simpa using he
      rw [e1] at hgo hany
      refine And.intro rfl (fun z hz => ?_)
      have hz := add_in hz (by omega) (by omega)
      subst hz
      refine And.intro rfl (Exists.intro (k + 1, true, d, A, a2, c2) (And.intro ?_ (And.intro ?_ ?_)))
      · exact ⟨rfl, rfl, rfl, rfl, rfl, rfl, rfl, trivial⟩
      · exact ⟨by simp only; omega, hc1, ho, hfr, by simp only; omega, by simpa using hgo, by simpa using hany⟩
      · simp only; omega
    · have e1 : eq l[k] = false := by rw [heq]; simpa using hne
      rw [e1] at hgo hany
      simp only [Bool.false_eq_true, if_false, Bool.false_or] at hgo hany
      have keep : (put && !d && lt l[k]) = false → goF put eq lt y l false = A ++ l[k] :: goF put eq lt y (l.drop (k + 1)) d := fun hb => by rw [hb] at hgo; simpa using hgo
      have hany3 := hany
      cases hp : put with
      | false =>
        subst hp
        have hgo3 := keep rfl
        have hcsE := (hv0.ext hc1).cells encR_len (i := k) (x := l[k]) (by simp [hltk])
        refine And.intro (by omega) (And.intro (by omega) (Exists.intro (encR l[k]) (And.intro rfl (And.intro hcsE ?_))))
        intro b6 h13 g13
        have B6 : Blk h13 b6 (encR l[k]) := g13.blk
        refine app_own encR_len encR_one rfl (ho.ext g13.chg) (SL.one encR_len B6) (by have := hal; have := Bool.toNat_le d; simp only [List.length_append, List.length_cons, List.length_nil, Bool.toNat_true, Bool.toNat_false] at *; omega) ?_
        intro v14 h14 ho14 hc14 hb14
        have hfr14 : ∀ b ∈ vblk v14, h0.size ≤ b := fun b' hb' => by
          rcases hb14 b' hb' with h | h
          · exact hfr b' h
          · have := hc1.size; have := g13.size; omega
        have hc014 : Chg [] h0 h14 := (hc1.nil g13.chg).fresh hc14 hfr
        obtain ⟨a14, c14, rfl, _⟩ := ho14.form
        refine And.intro rfl (fun z hz => ?_)
        have hz := add_in hz (by omega) (by omega)
        subst hz
        refine And.intro rfl (Exists.intro (k + 1, th, d, A ++ [l[k]], a14, c14) (And.intro ?_ (And.intro ?_ ?_)))
        · exact ⟨rfl, rfl, rfl, rfl, rfl, rfl, rfl, trivial⟩
        · exact ⟨by simp only; omega, hc014, ho14, hfr14, by have := hal; have := Bool.toNat_le d; simp only [List.length_append, List.length_cons, List.length_nil, Bool.toNat_true, Bool.toNat_false] at *; omega, by rw [hgo3]; simp, hany3⟩
        · simp only; omega
      | true =>
        cases hd : d with
        | true =>
          subst hp hd
          have hgo3 := keep rfl
          have hcsE := (hv0.ext hc1).cells encR_len (i := k) (x := l[k]) (by simp [hltk])
          refine And.intro (by omega) (And.intro (by omega) (Exists.intro (encR l[k]) (And.intro rfl (And.intro hcsE ?_))))
          intro b6 h13 g13
          have B6 : Blk h13 b6 (encR l[k]) := g13.blk
          refine app_own encR_len encR_one rfl (ho.ext g13.chg) (SL.one encR_len B6) (by have := hal; have := Bool.toNat_le true; simp only [List.length_append, List.length_cons, List.length_nil, Bool.toNat_true, Bool.toNat_false] at *; omega) ?_
          intro v14 h14 ho14 hc14 hb14
          have hfr14 : ∀ b ∈ vblk v14, h0.size ≤ b := fun b' hb' => by
            rcases hb14 b' hb' with h | h
            · exact hfr b' h
            · have := hc1.size; have := g13.size; omega
          have hc014 : Chg [] h0 h14 := (hc1.nil g13.chg).fresh hc14 hfr
          obtain ⟨a14, c14, rfl, _⟩ := ho14.form
          refine And.intro rfl (fun z hz => ?_)
          have hz := add_in hz (by omega) (by omega)
          subst hz
          refine And.intro rfl (Exists.intro (k + 1, th, true, A ++ [l[k]], a14, c14) (And.intro ?_ (And.intro ?_ ?_)))
          · exact ⟨rfl, rfl, rfl, rfl, rfl, rfl, rfl, trivial⟩
          · exact ⟨by simp only; omega, hc014, ho14, hfr14, by have := hal; have := Bool.toNat_le true; simp only [List.length_append, List.length_cons, List.length_nil, Bool.toNat_true, Bool.toNat_false] at *; omega, by rw [hgo3]; simp, hany3⟩
          · simp only; omega
        | false =>
          subst hp hd
          refine Exists.intro (encR y) (And.intro rfl (And.intro (cells_blk (B4.chg hc1 (by simp))) ?_))
          have hcs' := hv1.cells encR_len (i := k) (x := l[k]) (by simp [hltk])
          refine And.intro (by omega) (And.intro (by omega) (Exists.intro (encR l[k]) (And.intro rfl (And.intro hcs' ?_))))
          refine call_ret (Ahead_calls y l[k] hn (hf _ (List.getElem_mem hltk))) ?_
          rintro r2 h9 ⟨hr, e9⟩
          have hc1 := hc1.nil e9
          have ho := ho.ext e9
          have hv1 := hv1.ext e9
          cases hs : aheadR y l[k] with
          | false =>
            rw [hs] at hr
            subst hr
            have hlf : lt l[k] = false := by rw [hlt]; exact hs
            have hgo3 := keep (by rw [hlf]; rfl)
            have hcsE := (hv0.ext hc1).cells encR_len (i := k) (x := l[k]) (by simp [hltk])
            refine And.intro (by omega) (And.intro (by omega) (Exists.intro (encR l[k]) (And.intro rfl (And.intro hcsE ?_))))
            intro b6 h13 g13
            have B6 : Blk h13 b6 (encR l[k]) := g13.blk
            refine app_own encR_len encR_one rfl (ho.ext g13.chg) (SL.one encR_len B6) (by have := hal; have := Bool.toNat_le false; simp only [List.length_append, List.length_cons, List.length_nil, Bool.toNat_true, Bool.toNat_false] at *; omega) ?_
            intro v14 h14 ho14 hc14 hb14
            have hfr14 : ∀ b ∈ vblk v14, h0.size ≤ b := fun b' hb' => by
              rcases hb14 b' hb' with h | h
              · exact hfr b' h
              · have := hc1.size; have := g13.size; omega
            have hc014 : Chg [] h0 h14 := (hc1.nil g13.chg).fresh hc14 hfr
            obtain ⟨a14, c14, rfl, _⟩ := ho14.form
            refine And.intro rfl (fun z hz => ?_)
            have hz := add_in hz (by omega) (by omega)
            subst hz
            refine And.intro rfl (Exists.intro (k + 1, th, false, A ++ [l[k]], a14, c14) (And.intro ?_ (And.intro ?_ ?_)))
            · exact ⟨rfl, rfl, rfl, rfl, rfl, rfl, rfl, trivial⟩
            · exact ⟨by simp only; omega, hc014, ho14, hfr14, by have := hal; have := Bool.toNat_le false; simp only [List.length_append, List.length_cons, List.length_nil, Bool.toNat_true, Bool.toNat_false] at *; omega, by rw [hgo3]; simp, hany3⟩
            · simp only; omega
          | true =>
            rw [hs] at hr
            subst hr
            have hlf : lt l[k] = true := by rw [hlt]; exact hs
            rw [hlf] at hgo
            refine Exists.intro (encR y) (And.intro rfl (And.intro (cells_blk (B4.chg hc1 (by simp))) ?_))
            intro b5 h3 g3
            have B5 : Blk h3 b5 (encR y) := g3.blk
            refine app_own encR_len encR_one rfl (ho.ext g3.chg) (SL.one encR_len B5) (by have := hal; simp only [List.length_cons, List.length_nil, Bool.toNat_true, Bool.toNat_false] at this ⊢; omega) ?_
            intro v4 h4 ho4 hc4 hb4
            have hfr4 : ∀ b ∈ vblk v4, h0.size ≤ b := fun b' hb' => by
              rcases hb4 b' hb' with h | h
              · exact hfr b' h
              · have := hc1.size; have := g3.size; omega
            have hc04 : Chg [] h0 h4 := (hc1.nil g3.chg).fresh hc4 hfr
            obtain ⟨a4, c4, rfl, _⟩ := ho4.form
            have hald : (A ++ [y]).length ≤ k + true.toNat := by have := hal; simp only [List.length_append, List.length_cons, List.length_nil, Bool.toNat_true, Bool.toNat_false] at this ⊢; omega
            have hgo3 : goF true eq lt y l false = (A ++ [y]) ++ l[k] :: goF true eq lt y (l.drop (k + 1)) true := by simpa using hgo
            have hcsE := (hv0.ext hc04).cells encR_len (i := k) (x := l[k]) (by simp [hltk])
            refine And.intro (by omega) (And.intro (by omega) (Exists.intro (encR l[k]) (And.intro rfl (And.intro hcsE ?_))))
            intro b6 h13 g13
            have B6 : Blk h13 b6 (encR l[k]) := g13.blk
            refine app_own encR_len encR_one rfl (ho4.ext g13.chg) (SL.one encR_len B6) (by have := hald; have := Bool.toNat_le true; simp only [List.length_append, List.length_cons, List.length_nil, Bool.toNat_true, Bool.toNat_false] at *; omega) ?_
            intro v14 h14 ho14 hc14 hb14
            have hfr14 : ∀ b ∈ vblk v14, h0.size ≤ b := fun b' hb' => by
              rcases hb14 b' hb' with h | h
              · exact hfr4 b' h
              · have := hc04.size; have := g13.size; omega
            have hc014 : Chg [] h0 h14 := (hc04.nil g13.chg).fresh hc14 hfr4
            obtain ⟨a14, c14, rfl, _⟩ := ho14.form
            refine And.intro rfl (fun z hz => ?_)
            have hz := add_in hz (by omega) (by omega)
            subst hz
            refine And.intro rfl (Exists.intro (k + 1, th, true, (A ++ [y]) ++ [l[k]], a14, c14) (And.intro ?_ (And.intro ?_ ?_)))
            · exact ⟨rfl, rfl, rfl, rfl, rfl, rfl, rfl, trivial⟩
            · exact ⟨by simp only; omega, hc014, ho14, hfr14, by have := hald; have := Bool.toNat_le true; simp only [List.length_append, List.length_cons, List.length_nil, Bool.toNat_true, Bool.toNat_false] at *; omega, by rw [hgo3]; simp, hany3⟩
            · simp only; omega
  · have hkl : k = l.length := by omega
    subst hkl
    rw [List.drop_length, goF] at hgo
    rw [List.drop_length, List.any_nil, Bool.or_false] at hany
    have fin : put = false ∨ d = true → goF put eq lt y l false = A := fun h => by
      rw [hgo]
      rcases h with h | h
      · rw [h]; simp
      · rw [h]; simp
    rw [hany]
    cases hp : put with
    | false =>
      subst hp
      rw [fin (.inl rfl)]
      exact And.intro (Exists.intro _ (And.intro rfl (And.intro ho (fun b hb => by have := hfr b hb; omega)))) (hc0.nil hc1)
    | true =>
      cases hd : d with
      | true =>
        subst hp hd
        rw [fin (.inr rfl)]
        exact And.intro (Exists.intro _ (And.intro rfl (And.intro ho (fun b hb => by have := hfr b hb; omega)))) (hc0.nil hc1)
      | false =>
        subst hp hd
        refine Exists.intro (encR y) (And.intro rfl (And.intro (cells_blk (B4.chg hc1 (by simp))) ?_))
        intro b5 h3 g3
        have B5 : Blk h3 b5 (encR y) := g3.blk
        refine app_own encR_len encR_one rfl (ho.ext g3.chg) (SL.one encR_len B5) (by have := hal; simp only [List.length_cons, List.length_nil, Bool.toNat_true, Bool.toNat_false] at this ⊢; omega) ?_
        intro v4 h4 ho4 hc4 hb4
        have e4 : goF true eq lt y l false = A ++ [y] := by rw [hgo]; rfl
        rw [e4]
        refine And.intro (Exists.intro _ (And.intro rfl (And.intro ho4 (fun b' hb' => ?_)))) (hc0.nil ((hc1.nil g3.chg).fresh hc4 hfr))
        rcases hb4 b' hb' with h | h
        · have := hfr b' h; omega
        · have := hc1.size; have := g3.size; omega

end Go.Proofs.YtaffnlibmkcgiaaGreat
namespace Go.Proofs.YtaffnlibmkcgiaaGreat
open Go Go.Sx Go.Proofs.YtaffnlibmkcgiaaGreat.C

def usesV (op : Int) : Value := match ruleR op with
  | some r => .tuple #[.bool r.name, .bool r.text, .bool r.number, .bool true]
  | none => .tuple #[.bool false, .bool false, .bool false, .bool false]
def kindI (op : Int) : Int := match ruleR op with
  | some r => r.kind
  | none => 0

theorem uses_calls {h : Heap} (op : Int) : CallsH Tryz.prog 38 [.int .i64 op] h (Ret fun r h' => r = usesV op ∧ h' = h) := by
  refine f38_calls (by simp) ?_
  refine And.intro rfl (And.intro (fun h1 => ?_) (fun n1 => ?_))
  · subst h1; exact And.intro rfl rfl
  refine And.intro rfl (And.intro (fun h4 => ?_) (fun n4 => ?_))
  · subst h4; exact And.intro rfl rfl
  refine And.intro rfl (And.intro (fun h9 => ?_) (fun n9 => ?_))
  · subst h9; exact And.intro rfl rfl
  refine And.intro rfl (And.intro (fun h10 => ?_) (fun n10 => ?_))
  · subst h10; exact And.intro rfl rfl
  refine And.intro rfl (And.intro (fun h2 => ?_) (fun n2 => ?_))
  · subst h2; exact And.intro rfl rfl
  refine And.intro rfl (And.intro (fun h7 => ?_) (fun n7 => ?_))
  · subst h7; exact And.intro rfl rfl
  refine And.intro rfl (And.intro (fun h8 => ?_) (fun n8 => ?_))
  · subst h8; exact And.intro rfl rfl
  refine And.intro rfl (And.intro (fun h3 => ?_) (fun n3 => ?_))
  · subst h3; exact And.intro rfl rfl
  refine And.intro rfl (And.intro (fun h5 => ?_) (fun n5 => ?_))
  · subst h5; exact And.intro rfl rfl
  refine And.intro rfl (And.intro (fun h6 => ?_) (fun n6 => ?_))
  · subst h6; exact And.intro rfl rfl
  refine And.intro rfl (And.intro (fun h12 => ?_) (fun n12 => ?_))
  · subst h12; exact And.intro rfl rfl
  refine And.intro rfl (And.intro (fun h13 => ?_) (fun n13 => ?_))
  · subst h13; exact And.intro rfl rfl
  refine And.intro rfl (And.intro (fun h15 => ?_) (fun n15 => ?_))
  · subst h15; exact And.intro rfl rfl
  refine And.intro rfl (And.intro (fun h11 => ?_) (fun n11 => ?_))
  · subst h11; exact And.intro rfl rfl
  refine And.intro rfl (And.intro (fun h14 => ?_) (fun n14 => ?_))
  · subst h14; exact And.intro rfl rfl
  have e : ruleR op = none := by unfold ruleR; simp [n1, n2, n3, n4, n5, n6, n7, n8, n9, n10, n11, n12, n13, n14, n15]
  exact And.intro (by unfold usesV; rw [e]; rfl) rfl

theorem kind_calls {h : Heap} (op : Int) : CallsH Tryz.prog 39 [.int .i64 op] h (Ret fun r h' => r = .int .i64 (kindI op) ∧ h' = h) := by
  refine f39_calls (by simp) ?_
  refine And.intro rfl (And.intro (fun h5 => ?_) (fun n5 => ?_))
  · subst h5; exact And.intro rfl rfl
  refine And.intro rfl (And.intro (fun h6 => ?_) (fun n6 => ?_))
  · subst h6; exact And.intro rfl rfl
  refine And.intro rfl (And.intro (fun h7 => ?_) (fun n7 => ?_))
  · subst h7; exact And.intro rfl rfl
  refine And.intro rfl (And.intro (fun h8 => ?_) (fun n8 => ?_))
  · subst h8; exact And.intro rfl rfl
  refine And.intro rfl (And.intro (fun h9 => ?_) (fun n9 => ?_))
  · subst h9; exact And.intro rfl rfl
  refine And.intro rfl (And.intro (fun h10 => ?_) (fun n10 => ?_))
  · subst h10; exact And.intro rfl rfl
  refine And.intro rfl (And.intro (fun h11 => ?_) (fun n11 => ?_))
  · subst h11; exact And.intro rfl rfl
  refine And.intro rfl (And.intro (fun h12 => ?_) (fun n12 => ?_))
  · subst h12; exact And.intro rfl rfl
  refine And.intro rfl (And.intro (fun h13 => ?_) (fun n13 => ?_))
  · subst h13; exact And.intro rfl rfl
  refine And.intro rfl (And.intro (fun h14 => ?_) (fun n14 => ?_))
  · subst h14; exact And.intro rfl rfl
  refine And.intro rfl (And.intro (fun h15 => ?_) (fun n15 => ?_))
  · subst h15; exact And.intro rfl rfl
  have e : kindI op = 0 := by
    unfold kindI ruleR
    simp only [n5, n6, n7, n8, n9, n10, n11, n12, n13, n14, n15, if_false]
    by_cases h1 : op = 1; · rw [if_pos h1]
    by_cases h2 : op = 2; · rw [if_neg h1, if_pos h2]
    by_cases h3 : op = 3; · rw [if_neg h1, if_neg h2, if_pos h3]
    by_cases h4 : op = 4; · rw [if_neg h1, if_neg h2, if_neg h3, if_pos h4]
    rw [if_neg h1, if_neg h2, if_neg h3, if_neg h4]
  exact And.intro (by rw [e]; rfl) rfl

theorem RCount_calls {h : Heap} {vs : List Value} {t : Thing} (x : TH h vs t) (n : Lens t) :
    CallsH Tryz.prog 41 [.agg ⟨vs⟩] h (Ret fun r h' => r = .int .i64 (countT t) ∧ Chg [] h h') := by
  have np := n.p; have nl := n.l; have nr := n.r
  refine f41_calls (by simp) ?_
  intro b1 h1 g1
  have B1 : Blk h1 b1 vs := g1.blk
  obtain ⟨pv, lv, rv, rfl, hp, hl, hr⟩ := x
  obtain ⟨pa, pc, rfl, _⟩ := hp.form
  obtain ⟨la, lc, rfl, _⟩ := hl.form
  obtain ⟨ra, rc, rfl, _⟩ := hr.form
  refine Exists.intro _ (And.intro (cell_blk B1 rfl) (Exists.intro _ (And.intro (cell_blk B1 rfl) ?_)))
  refine And.intro rfl (fun z hz => ?_)
  have hz := add_in hz (by omega) (by omega)
  refine Exists.intro _ (And.intro (cell_blk B1 rfl) ?_)
  refine And.intro rfl (fun y hy => ?_)
  have hy := add_in hy (by omega) (by omega)
  refine And.intro ?_ g1.chg
  have : y = (countT t : Int) := by unfold countT; omega
  rw [this]; rfl

theorem RDrop_calls {h : Heap} {v : Value} {l : List RX} (key : ByteArray) (hv : SL encX h v l) (hl : l.length ≤ 100000) (hk : key.size < 4611686018427387904) (hf : KeysFit l) :
    CallsH Tryz.prog 42 [v, .string key] h (Ret fun r h' => SL encX h' r (dropX l key) ∧ Chg [] h h') := by
  obtain ⟨a, c, rfl, hlc⟩ := hv.form
  refine f42_calls (by simp) ?_
  refine call_ret (Find_calls key hv (by omega) hk hf) ?_
  rintro _ h9 ⟨rfl, e9⟩
  have e9 := e9.symm
  subst e9
  obtain ⟨d, hd⟩ : ∃ d, d = dropX l key := ⟨_, rfl⟩
  rw [← hd]
  have hi := findX_le key l
  cases hb : (findX key l).2 with
  | false =>
    have e : d = l := by rw [hd]; unfold dropX; rw [if_neg (by rw [hb]; simp)]
    rw [e]
    exact And.intro hv (Chg.refl h)
  | true =>
    obtain ⟨hlt, _⟩ := findX_hit key l hb
    have e : d = l.take (findX key l).1 ++ l.drop ((findX key l).1 + 1) := by rw [hd]; unfold dropX; rw [if_pos hb]
    rw [e]
    generalize (findX key l).1 = i at *
    refine SL.slc (lo := 0) encX_len hv (Nat.zero_le _) hi ?_
    intro a1 _ hs1
    simp only [Nat.sub_zero, List.drop_zero] at hs1 ⊢
    refine And.intro rfl (fun z hz => ?_)
    have hz := add_in hz (by omega) (by omega)
    subst hz
    refine SL.slc (lo := i + 1) encX_len hv hlt (Nat.le_refl _) ?_
    intro a2 _ hs2
    have e2 : (l.drop (i + 1)).take (l.length - (i + 1)) = l.drop (i + 1) := by rw [List.take_of_length_le]; simp
    rw [e2] at hs2
    refine app_new encX_len encX_one rfl hs1 (by simp; omega) ?_
    intro w4 h4 ho4 hc4 hb4
    obtain ⟨a4, c4, rfl, hoc4⟩ := ho4.sl.form
    refine app_own encX_len encX_one rfl ho4 (hs2.ext hc4) (by simp; omega) ?_
    intro w6 h6 ho6 hc6 hb6
    exact And.intro ho6.sl (hc4.fresh hc6 hb4)

end Go.Proofs.YtaffnlibmkcgiaaGreat
namespace Go.Proofs.YtaffnlibmkcgiaaGreat
open Go Go.Sx Go.Proofs.YtaffnlibmkcgiaaGreat.C

/-- Names of a length that the walks can count. -/
structure Named (t : Thing) : Prop where
  ps : ∀ x ∈ t.pairs, x.name.size < 4611686018427387904
  ls : ∀ x ∈ t.list, x.size < 4611686018427387904
  rs : ∀ x ∈ t.ranks, x.name.size < 4611686018427387904

/-- What a thing made of another one's lists and of new ones is, whatever changes of what was before. -/
def Keeps (h : Heap) (vs : List Value) (t : Thing) (h' : Heap) (us : List Value) (t' : Thing) : Prop :=
  ∀ S h'', (∀ b ∈ S, b < h.size) → Chg S h' h'' → TH h'' vs t → TH h'' us t'

def DoneP (h : Heap) (vs : List Value) (t : Thing) (e : Eff) (r : Value) (h' : Heap) : Prop :=
  (∃ us t', r = .tuple #[.agg ⟨us⟩, .int .i64 (doneT t e).2] ∧ Keeps h vs t h' us t' ∧ ((doneT t e).2 = 0 → t' = (doneT t e).1)) ∧ Chg [] h h'

theorem done_fin {h h' : Heap} {vs : List Value} {t t' : Thing} {e : Eff} {us : List Value} {n : Int} (hn : (doneT t e).2 = n) (x : Keeps h vs t h' us t') (ht : n = 0 → t' = (doneT t e).1) (c : Chg [] h h') :
    Ret (DoneP h vs t e) (.returned (retV [.agg ⟨us⟩, .int .i64 n])) h' := by
  subst hn
  exact ⟨⟨us, t', rfl, x, ht⟩, c⟩

theorem TH.open {h : Heap} {t : Thing} {k tx hu un pv lv rv : Value} (x : TH h [k, tx, pv, lv, rv, hu, un] t) : SL encP h pv t.pairs ∧ SL encS h lv t.list ∧ SL encR h rv t.ranks := by
  obtain ⟨p, l, r, he, h1, h2, h3⟩ := x
  simp only [List.cons.injEq] at he
  obtain ⟨_, _, rfl, rfl, rfl, _⟩ := he
  exact ⟨h1, h2, h3⟩

theorem own_one {α : Type} {enc : α → List Value} {h : Heap} {b : Nat} {x : α} {size : Nat} (hs : (enc x).length = size) (B : Blk h b (enc x)) : OL enc size h (.slice (some ⟨b, 0, none⟩) 1 1) [x] := by
  refine OL.mk (rest := []) rfl (Nat.le_refl _) ?_ ?_
  · simpa using B
  · simp [hs]

theorem done_calls {h : Heap} {vs : List Value} {t : Thing} {e : Eff} (x : TH h vs t) (n : Lens t) (nm : Named t) (hz : e.name.size < 4611686018427387904) (hne : e.op = 9 ∨ e.op = 10 → t.list ≠ []) :
    CallsH Tryz.prog 40 [.agg ⟨vs⟩, .agg ⟨encD e⟩] h (Ret (DoneP h vs t e)) := by
  have np := n.p; have nl := n.l; have nr := n.r
  refine f40_calls (by simp) ?_
  intro b2 h1 g1
  intro b3 h2 g2
  intro b4 h3 g3
  have i2 := g1.id; have i3 := g2.id; have i4 := g3.id
  have z1 := g1.size; have z2 := g2.size; have z3 := g3.size
  have hc3 : Chg [] h h3 := (g1.chg.nil g2.chg).nil g3.chg
  have B2 : Blk h3 b2 vs := ((show Blk h1 b2 vs from g1.blk).chg g2.chg (by simp)).chg g3.chg (by simp)
  have B3 : Blk h3 b3 (encD e) := (show Blk h2 b3 (encD e) from g2.blk).chg g3.chg (by simp)
  have B4 : Blk h3 b4 zeroV := g3.blk
  have zz : h.size + 3 = h3.size := by omega
  have j2 : b2 = h.size := by omega
  have j3 : b3 = h.size + 1 := by omega
  have j4 : b4 = h.size + 2 := by omega
  obtain ⟨pv, lv, rv, rfl, hp, hl, hr⟩ := x
  obtain ⟨pa, pc, rfl, _⟩ := hp.form
  obtain ⟨la, lc, rfl, _⟩ := hl.form
  obtain ⟨ra, rc, rfl, _⟩ := hr.form
  have hp3 := hp.ext hc3
  have hl3 := hl.ext hc3
  have hr3 := hr.ext hc3
  have fin : ∀ (h9 : Heap) (th : Bool) (n : Int) (t' : Thing) (us : List Value), Blk h9 b2 us → (∀ (S : List Nat) (h10 : Heap), (∀ b ∈ S, b < h.size ∨ b = b4) → Chg S h9 h10 → SL encP h10 (.slice pa t.pairs.length pc) t.pairs → SL encS h10 (.slice la t.list.length lc) t.list → SL encR h10 (.slice ra t.ranks.length rc) t.ranks → TH h10 us t') → Blk h9 b4 zeroV → Chg [] h h9 → (doneT t e).2 = n → (th = true → n = 0 ∧ t' = (doneT t e).1) → (th = false → n = 5) →
      swp Tryz.prog (.seq (.seq (.ops f40r36) (.cond (.tmp 162) (.seq (.ops f40r37) .ret) .skip)) (.seq (.ops f40r38) .ret)) (retQ [.cn 4 7, .t 5] (Ret (DoneP h [.int .i64 t.kind, .string t.text, .slice pa t.pairs.length pc, .slice la t.list.length lc, .slice ra t.ranks.length rc, .bool t.hasU, .int .i64 t.unt] t e))) (mk [(2, ptr b2), (4, ptr b4), (6, .bool th)]) [] h9 := by
    intro h9 th n t' us C2 tx C4 c hn h1 h2
    have tx9 := tx [] h9 (by simp) (Chg.refl h9) (hp.ext c) (hl.ext c) (hr.ext c)
    cases th with
    | false =>
      have h2 := h2 rfl
      subst h2
      refine Exists.intro us (And.intro tx9.len (And.intro (cells_blk C2) ?_))
      refine Exists.intro _ (And.intro C4 (And.intro (by decide) (And.intro tx9.len (And.intro (thing_one tx9) ?_))))
      intro h10 p10
      have C10 : Blk h10 b4 us := by
        have h8 : Blk h10 b4 (splice zeroV 0 us) := p10.blk
        rw [seven rfl tx9.len] at h8
        exact h8
      refine Exists.intro us (And.intro tx9.len (And.intro (cells_blk C10) ?_))
      exact done_fin hn (fun S h11 hS c11 x11 => tx (b4 :: S) h11 (fun b hb => (List.mem_cons.1 hb).elim .inr (fun hb => .inl (hS b hb))) ((p10.chg.mono (by simp)).step c11 (fun k hk _ => List.mem_cons_of_mem _ hk)) x11.open.1 x11.open.2.1 x11.open.2.2) (fun h => absurd h (by decide)) (c.fresh p10.chg (by simp; omega))
    | true =>
      obtain ⟨h1, h1'⟩ := h1 rfl
      subst h1
      refine Exists.intro us (And.intro tx9.len (And.intro (cells_blk C2) ?_))
      refine Exists.intro _ (And.intro C4 (And.intro (by decide) (And.intro tx9.len (And.intro (thing_one tx9) ?_))))
      intro h10 p10
      have C10 : Blk h10 b4 us := by
        have h8 : Blk h10 b4 (splice zeroV 0 us) := p10.blk
        rw [seven rfl tx9.len] at h8
        exact h8
      refine Exists.intro us (And.intro tx9.len (And.intro (cells_blk C10) ?_))
      exact done_fin hn (fun S h11 hS c11 x11 => tx (b4 :: S) h11 (fun b hb => (List.mem_cons.1 hb).elim .inr (fun hb => .inl (hS b hb))) ((p10.chg.mono (by simp)).step c11 (fun k hk _ => List.mem_cons_of_mem _ hk)) x11.open.1 x11.open.2.1 x11.open.2.2) (fun _ => h1') (c.fresh p10.chg (by simp; omega))
  clear g1 g2 g3
  refine Exists.intro _ (And.intro (cell_blk B3 rfl) ?_)
  refine And.intro rfl (And.intro (fun hop => ?_) (fun n1 => ?_))
  · have hd : doneT t e = (zeroT, 0) := by unfold doneT; simp [hop]
    refine Exists.intro _ (And.intro B4 (And.intro (by decide) (And.intro rfl (And.intro (thing_one (t := zeroT) (h := h3) zero_TH) ?_))))
    intro h4 p4
    have C4 : Blk h4 b4 zeroV := p4.blk
    refine Exists.intro zeroV (And.intro rfl (And.intro (cells_blk C4) ?_))
    exact done_fin (by rw [hd]) (t' := zeroT) (fun _ _ _ _ _ => zero_TH) (fun _ => by rw [hd]) (hc3.fresh p4.chg (by simp; omega))
  refine And.intro rfl (And.intro (fun hop => ?_) (fun n2 => ?_))
  · have hd : doneT t e = ((textT e.text), 0) := by unfold doneT; simp [hop]
    refine Exists.intro _ (And.intro (cell_blk B3 rfl) ?_)
    refine Exists.intro _ (And.intro B4 (And.intro (by decide) (And.intro rfl (And.intro (thing_one (t := (textT e.text)) (h := h3) text_TH) ?_))))
    intro h4 p4
    have C4 : Blk h4 b4 (textV e.text) := p4.blk
    refine Exists.intro (textV e.text) (And.intro rfl (And.intro (cells_blk C4) ?_))
    exact done_fin (by rw [hd]) (t' := (textT e.text)) (fun _ _ _ _ _ => text_TH) (fun _ => by rw [hd]) (hc3.fresh p4.chg (by simp; omega))
  refine And.intro rfl (And.intro (fun hop => ?_) (fun n3 => ?_))
  · have hd : doneT t e = ({ t with hasU := true, unt := e.num }, 0) := by unfold doneT; simp [hop]
    refine And.intro ?_ ?_
    · refine Exists.intro _ (And.intro (cell_blk B3 rfl) ?_)
      refine Exists.intro _ (And.intro B2 (And.intro (by simp) (And.intro rfl (And.intro (ones1 rfl) ?_))))
      intro h4 p4
      have C2 : Blk h4 b2 [.int .i64 t.kind, .string t.text, .slice pa t.pairs.length pc, .slice la t.list.length lc, .slice ra t.ranks.length rc, .bool true, .int .i64 t.unt] := p4.blk
      have C3 : Blk h4 b3 (encD e) := B3.chg p4.chg (by simp; omega)
      refine Exists.intro _ (And.intro C2 (And.intro (by simp) (And.intro rfl (And.intro (ones1 rfl) ?_))))
      intro h5 p5
      have D2 : Blk h5 b2 [.int .i64 t.kind, .string t.text, .slice pa t.pairs.length pc, .slice la t.list.length lc, .slice ra t.ranks.length rc, .bool true, .int .i64 e.num] := p5.blk
      have c35 : Chg [b2] h3 h5 := p4.chg.trans p5.chg (fun _ hx => hx) (fun _ hx _ => hx)
      exact cut_at [(2, ptr b2), (4, ptr b4), (6, .bool (true))] ⟨rfl, rfl, rfl, trivial⟩ (fin h5 (true) (0) { t with hasU := true, unt := e.num } _ (D2) (fun S h10 hS c2 q1 q2 q3 => ⟨_, _, _, rfl, q1, q2, q3⟩) (B4.chg c35 (by simp; omega)) (hc3.fresh c35 (by simp; omega)) (by rw [hd]) (fun _ => ⟨rfl, by rw [hd]⟩) (fun h => absurd h (by decide)))
    · refine Exists.intro _ (And.intro B2 (And.intro (by simp) (And.intro rfl (And.intro (ones1 rfl) ?_))))
      intro h4 p4
      have C2 : Blk h4 b2 [.int .i64 t.kind, .string t.text, .slice pa t.pairs.length pc, .slice la t.list.length lc, .slice ra t.ranks.length rc, .bool true, .int .i64 t.unt] := p4.blk
      have C3 : Blk h4 b3 (encD e) := B3.chg p4.chg (by simp; omega)
      refine Exists.intro _ (And.intro (cell_blk C3 rfl) ?_)
      refine Exists.intro _ (And.intro C2 (And.intro (by simp) (And.intro rfl (And.intro (ones1 rfl) ?_))))
      intro h5 p5
      have D2 : Blk h5 b2 [.int .i64 t.kind, .string t.text, .slice pa t.pairs.length pc, .slice la t.list.length lc, .slice ra t.ranks.length rc, .bool true, .int .i64 e.num] := p5.blk
      have c35 : Chg [b2] h3 h5 := p4.chg.trans p5.chg (fun _ hx => hx) (fun _ hx _ => hx)
      exact cut_at [(2, ptr b2), (4, ptr b4), (6, .bool (true))] ⟨rfl, rfl, rfl, trivial⟩ (fin h5 (true) (0) { t with hasU := true, unt := e.num } _ (D2) (fun S h10 hS c2 q1 q2 q3 => ⟨_, _, _, rfl, q1, q2, q3⟩) (B4.chg c35 (by simp; omega)) (hc3.fresh c35 (by simp; omega)) (by rw [hd]) (fun _ => ⟨rfl, by rw [hd]⟩) (fun h => absurd h (by decide)))
  refine And.intro rfl (And.intro (fun hop => ?_) (fun n4 => ?_))
  · have hd : doneT t e = ({ t with hasU := false, unt := 0 }, 0) := by unfold doneT; simp [hop]
    refine Exists.intro _ (And.intro B2 (And.intro (by simp) (And.intro rfl (And.intro (ones1 rfl) ?_))))
    intro h4 p4
    have C2 : Blk h4 b2 [.int .i64 t.kind, .string t.text, .slice pa t.pairs.length pc, .slice la t.list.length lc, .slice ra t.ranks.length rc, .bool false, .int .i64 t.unt] := p4.blk
    refine Exists.intro _ (And.intro C2 (And.intro (by simp) (And.intro rfl (And.intro (ones1 rfl) ?_))))
    intro h5 p5
    have D2 : Blk h5 b2 [.int .i64 t.kind, .string t.text, .slice pa t.pairs.length pc, .slice la t.list.length lc, .slice ra t.ranks.length rc, .bool false, .int .i64 0] := p5.blk
    have c35 : Chg [b2] h3 h5 := p4.chg.trans p5.chg (fun _ hx => hx) (fun _ hx _ => hx)
    exact cut_at [(2, ptr b2), (4, ptr b4), (6, .bool (true))] ⟨rfl, rfl, rfl, trivial⟩ (fin h5 (true) (0) { t with hasU := false, unt := 0 } _ (D2) (fun S h10 hS c2 q1 q2 q3 => ⟨_, _, _, rfl, q1, q2, q3⟩) (B4.chg c35 (by simp; omega)) (hc3.fresh c35 (by simp; omega)) (by rw [hd]) (fun _ => ⟨rfl, by rw [hd]⟩) (fun h => absurd h (by decide)))
  refine And.intro rfl (And.intro (fun hop => ?_) (fun n5 => ?_))
  · have hd : doneT t e = ({ t with pairs := putF (fun x => decide (x.name = e.name)) (fun x => sless e.name x.name) ⟨e.name, e.text⟩ t.pairs false }, 0) := by unfold doneT; simp [hop]
    refine Exists.intro _ (And.intro (cell_blk B2 rfl) (Exists.intro _ (And.intro (cell_blk B3 rfl) (Exists.intro _ (And.intro (cell_blk B3 rfl) ?_)))))
    refine call_ret (pairsR_calls e.name e.text true hp3 (by omega) hz nm.ps) ?_
    rintro _ h4 ⟨⟨u, rfl, ho, hfr⟩, c4⟩
    rw [goF_put] at ho
    obtain ⟨ua, uc, rfl, _⟩ := ho.sl.form
    refine Exists.intro _ (And.intro (B2.chg c4 (by simp)) (And.intro (by simp) (And.intro rfl (And.intro (ones1 rfl) ?_))))
    intro h5 p5
    have c5 : Chg [] h h5 := (hc3.nil c4).fresh p5.chg (by simp; omega)
    have ho5 := ho.chg p5.chg (fun b hb => by have := hfr b hb; simp; omega)
    have C4 : Blk h5 b4 zeroV := (B4.chg c4 (by simp)).chg p5.chg (by simp; omega)
    exact cut_at [(2, ptr b2), (4, ptr b4), (6, .bool (true))] ⟨rfl, rfl, rfl, trivial⟩ (fin h5 (true) (0) ({ t with pairs := putF (fun x => decide (x.name = e.name)) (fun x => sless e.name x.name) ⟨e.name, e.text⟩ t.pairs false }) _ (p5.blk) (fun S h10 hS c2 q1 q2 q3 => ⟨_, _, _, rfl, (ho5.chg c2 (fun b hb hx => by have := hfr b hb; have := hS b hx; omega)).sl, q2, q3⟩) (C4) (c5) (by rw [hd]) (fun _ => ⟨rfl, by rw [hd]⟩) (fun h => absurd h (by decide)))
  refine And.intro rfl (And.intro (fun hop => ?_) (fun n6 => ?_))
  · have hd : doneT t e = ({ t with pairs := delF (fun x => decide (x.name = e.name)) t.pairs }, if t.pairs.any (fun x => decide (x.name = e.name)) then 0 else 5) := by unfold doneT; simp [hop]
    refine Exists.intro _ (And.intro (cell_blk B2 rfl) (Exists.intro _ (And.intro (cell_blk B3 rfl) ?_)))
    refine call_ret (pairsR_calls e.name ⟨#[]⟩ false hp3 (by omega) hz nm.ps) ?_
    rintro _ h4 ⟨⟨u, rfl, ho, hfr⟩, c4⟩
    rw [goF_del] at ho
    obtain ⟨ua, uc, rfl, _⟩ := ho.sl.form
    refine Exists.intro _ (And.intro (B2.chg c4 (by simp)) (And.intro (by simp) (And.intro rfl (And.intro (ones1 rfl) ?_))))
    intro h5 p5
    have c5 : Chg [] h h5 := (hc3.nil c4).fresh p5.chg (by simp; omega)
    have ho5 := ho.chg p5.chg (fun b hb => by have := hfr b hb; simp; omega)
    have C4 : Blk h5 b4 zeroV := (B4.chg c4 (by simp)).chg p5.chg (by simp; omega)
    exact cut_at [(2, ptr b2), (4, ptr b4), (6, .bool (t.pairs.any (fun x => decide (x.name = e.name))))] ⟨rfl, rfl, rfl, trivial⟩ (fin h5 (t.pairs.any (fun x => decide (x.name = e.name))) (if t.pairs.any (fun x => decide (x.name = e.name)) then 0 else 5) ({ t with pairs := delF (fun x => decide (x.name = e.name)) t.pairs }) _ (p5.blk) (fun S h10 hS c2 q1 q2 q3 => ⟨_, _, _, rfl, (ho5.chg c2 (fun b hb hx => by have := hfr b hb; have := hS b hx; omega)).sl, q2, q3⟩) (C4) (c5) (by rw [hd]) (fun h => ⟨if_pos h, by rw [hd]⟩) (fun h => if_neg (by rw [h]; simp)))
  refine And.intro rfl (And.intro (fun hop => ?_) (fun n7 => ?_))
  · have hd : doneT t e = ({ t with list := e.text :: t.list }, 0) := by unfold doneT; simp [hop]
    refine Exists.intro _ (And.intro (cell_blk B3 rfl) ?_)
    intro b5 h4 g4
    have i5 := g4.id
    have s4 := g4.size
    have own : OL encS 1 h4 (.slice (some ⟨b5, 0, none⟩) 1 1) [e.text] := own_one rfl g4.blk
    have C2 := B2.chg g4.chg (by simp)
    refine Exists.intro _ (And.intro (cell_blk C2 rfl) ?_)
    refine app_own encS_len encS_one rfl own (hl3.ext g4.chg) (by simp; omega) ?_
    intro v5 h5 ho5 hc5 hb5
    have hfr : ∀ b ∈ vblk v5, h3.size ≤ b := fun b hb => by
      rcases hb5 b hb with h | h
      · simp [ablk] at h; omega
      · omega
    obtain ⟨va, vc, rfl, _⟩ := ho5.sl.form
    have ho5 : OL encS 1 h5 _ (e.text :: t.list) := ho5
    have c5 : Chg [] h3 h5 := g4.chg.fresh hc5 (by simp [ablk]; omega)
    refine Exists.intro _ (And.intro (B2.chg c5 (by simp)) (And.intro (by simp) (And.intro rfl (And.intro (ones1 rfl) ?_))))
    intro h9 p9
    have ho9 := ho5.chg p9.chg (fun b hb => by have := hfr b hb; simp; omega)
    exact cut_at [(2, ptr b2), (4, ptr b4), (6, .bool (true))] ⟨rfl, rfl, rfl, trivial⟩ (fin h9 (true) (0) ({ t with list := e.text :: t.list }) _ (p9.blk) (fun S h10 hS c2 q1 q2 q3 => ⟨_, _, _, rfl, q1, (ho9.chg c2 (fun b hb hx => by have := hfr b hb; have := hS b hx; omega)).sl, q3⟩) ((B4.chg c5 (by simp)).chg p9.chg (by simp; omega)) ((hc3.nil c5).fresh p9.chg (by simp; omega)) (by rw [hd]) (fun _ => ⟨rfl, by rw [hd]⟩) (fun h => absurd h (by decide)))
  refine And.intro rfl (And.intro (fun hop => ?_) (fun n8 => ?_))
  · have hd : doneT t e = ({ t with list := t.list ++ [e.text] }, 0) := by unfold doneT; simp [hop]
    refine Exists.intro _ (And.intro (cell_blk B2 rfl) (Exists.intro _ (And.intro (cell_blk B3 rfl) ?_)))
    refine And.intro ?_ ?_
    · refine app_new encS_len encS_one rfl hl3 (by omega) ?_
      intro v5 h5 ho5 hc5 hb5
      intro b6 h6 g6
      obtain ⟨va, vc, rfl, _⟩ := ho5.sl.form
      have c6 : Chg [] h3 h6 := hc5.nil g6.chg
      have z5 := hc5.size
      have own := ho5.ext g6.chg
      have one : SL encS h6 (.slice (some ⟨b6, 0, none⟩) 1 1) [e.text] := SL.one encS_len g6.blk
      have z6 := g6.size
      refine app_own encS_len encS_one rfl own one (by simp; omega) ?_
      intro v7 h7 ho7 hc7 hb7
      have hfr : ∀ b ∈ vblk v7, h3.size ≤ b := fun b hb => by
        rcases hb7 b hb with h | h
        · exact hb5 b h
        · omega
      obtain ⟨wa, wc, rfl, _⟩ := ho7.sl.form
      have c7 : Chg [] h3 h7 := c6.fresh hc7 hb5
      refine Exists.intro _ (And.intro (B2.chg c7 (by simp)) (And.intro (by simp) (And.intro rfl (And.intro (ones1 rfl) ?_))))
      intro h9 p9
      have ho9 := ho7.chg p9.chg (fun b hb => by have := hfr b hb; simp; omega)
      exact cut_at [(2, ptr b2), (4, ptr b4), (6, .bool (true))] ⟨rfl, rfl, rfl, trivial⟩ (fin h9 (true) (0) ({ t with list := t.list ++ [e.text] }) _ (p9.blk) (fun S h10 hS c2 q1 q2 q3 => ⟨_, _, _, rfl, q1, (ho9.chg c2 (fun b hb hx => by have := hfr b hb; have := hS b hx; omega)).sl, q3⟩) ((B4.chg c7 (by simp)).chg p9.chg (by simp; omega)) ((hc3.nil c7).fresh p9.chg (by simp; omega)) (by rw [hd]) (fun _ => ⟨rfl, by rw [hd]⟩) (fun h => absurd h (by decide)))
    · intro b6 h4 g4
      refine app_new encS_len encS_one rfl (hl3.ext g4.chg) (by omega) ?_
      intro v5 h6 own hc5 hb5'
      have z5 := g4.size
      have hb5 : ∀ b ∈ vblk v5, h3.size ≤ b := fun b hb => by have := hb5' b hb; omega
      obtain ⟨va, vc, rfl, _⟩ := own.sl.form
      have c6 : Chg [] h3 h6 := g4.chg.nil hc5
      have one : SL encS h6 (.slice (some ⟨b6, 0, none⟩) 1 1) [e.text] := (SL.one encS_len (show Blk h4 b6 (encS e.text) from g4.blk)).ext hc5
      have z6 := hc5.size
      refine app_own encS_len encS_one rfl own one (by simp; omega) ?_
      intro v7 h7 ho7 hc7 hb7
      have hfr : ∀ b ∈ vblk v7, h3.size ≤ b := fun b hb => by
        rcases hb7 b hb with h | h
        · exact hb5 b h
        · omega
      obtain ⟨wa, wc, rfl, _⟩ := ho7.sl.form
      have c7 : Chg [] h3 h7 := c6.fresh hc7 hb5
      refine Exists.intro _ (And.intro (B2.chg c7 (by simp)) (And.intro (by simp) (And.intro rfl (And.intro (ones1 rfl) ?_))))
      intro h9 p9
      have ho9 := ho7.chg p9.chg (fun b hb => by have := hfr b hb; simp; omega)
      exact cut_at [(2, ptr b2), (4, ptr b4), (6, .bool (true))] ⟨rfl, rfl, rfl, trivial⟩ (fin h9 (true) (0) ({ t with list := t.list ++ [e.text] }) _ (p9.blk) (fun S h10 hS c2 q1 q2 q3 => ⟨_, _, _, rfl, q1, (ho9.chg c2 (fun b hb hx => by have := hfr b hb; have := hS b hx; omega)).sl, q3⟩) ((B4.chg c7 (by simp)).chg p9.chg (by simp; omega)) ((hc3.nil c7).fresh p9.chg (by simp; omega)) (by rw [hd]) (fun _ => ⟨rfl, by rw [hd]⟩) (fun h => absurd h (by decide)))
  refine And.intro rfl (And.intro (fun hop => ?_) (fun n9 => ?_))
  · have hd : doneT t e = ({ t with list := t.list.tail }, 0) := by unfold doneT; simp [hop]
    have hlen : 0 < t.list.length := List.length_pos_iff.2 (hne (by omega))
    refine Exists.intro _ (And.intro (cell_blk B2 rfl) ?_)
    refine SL.slc (lo := 1) encS_len hl3 (by omega) (Nat.le_refl _) ?_
    intro a4 _ hs4
    have e4 : (t.list.drop 1).take (t.list.length - 1) = t.list.tail := by rw [List.take_of_length_le (by simp), List.drop_one]
    rw [e4] at hs4
    refine app_new encS_len encS_one rfl hs4 (by simp; omega) ?_
    intro v5 h5 ho5 c5 hb5
    obtain ⟨va, vc, rfl, _⟩ := ho5.sl.form
    refine Exists.intro _ (And.intro (B2.chg c5 (by simp)) (And.intro (by simp) (And.intro rfl (And.intro (ones1 rfl) ?_))))
    intro h9 p9
    have ho9 := ho5.chg p9.chg (fun b hb => by have := hb5 b hb; simp; omega)
    exact cut_at [(2, ptr b2), (4, ptr b4), (6, .bool (true))] ⟨rfl, rfl, rfl, trivial⟩ (fin h9 (true) (0) ({ t with list := t.list.tail }) _ (p9.blk) (fun S h10 hS c2 q1 q2 q3 => ⟨_, _, _, rfl, q1, (ho9.chg c2 (fun b hb hx => by have := hb5 b hb; have := hS b hx; omega)).sl, q3⟩) ((B4.chg c5 (by simp)).chg p9.chg (by simp; omega)) ((hc3.nil c5).fresh p9.chg (by simp; omega)) (by rw [hd]) (fun _ => ⟨rfl, by rw [hd]⟩) (fun h => absurd h (by decide)))
  refine And.intro rfl (And.intro (fun hop => ?_) (fun n10 => ?_))
  · have hd : doneT t e = ({ t with list := t.list.dropLast }, 0) := by unfold doneT; simp [hop]
    have hlen : 0 < t.list.length := List.length_pos_iff.2 (hne (by omega))
    refine Exists.intro _ (And.intro (cell_blk B2 rfl) (Exists.intro _ (And.intro (cell_blk B2 rfl) ?_)))
    refine And.intro rfl (fun z hz' => ?_)
    have hz' : z = ((t.list.length - 1 : Nat) : Int) := by have := sub_in hz' (by omega) (by omega); omega
    subst hz'
    refine SL.slc (lo := 0) (hi := t.list.length - 1) encS_len hl3 (by omega) (by omega) ?_
    intro a4 _ hs4
    have e4 : (t.list.drop 0).take (t.list.length - 1 - 0) = t.list.dropLast := by rw [List.dropLast_eq_take, List.drop_zero, Nat.sub_zero]
    rw [e4] at hs4
    simp only [Nat.sub_zero] at hs4 ⊢
    refine app_new encS_len encS_one rfl hs4 (by simp; omega) ?_
    intro v5 h5 ho5 c5 hb5
    obtain ⟨va, vc, rfl, _⟩ := ho5.sl.form
    refine Exists.intro _ (And.intro (B2.chg c5 (by simp)) (And.intro (by simp) (And.intro rfl (And.intro (ones1 rfl) ?_))))
    intro h9 p9
    have ho9 := ho5.chg p9.chg (fun b hb => by have := hb5 b hb; simp; omega)
    exact cut_at [(2, ptr b2), (4, ptr b4), (6, .bool (true))] ⟨rfl, rfl, rfl, trivial⟩ (fin h9 (true) (0) ({ t with list := t.list.dropLast }) _ (p9.blk) (fun S h10 hS c2 q1 q2 q3 => ⟨_, _, _, rfl, q1, (ho9.chg c2 (fun b hb hx => by have := hb5 b hb; have := hS b hx; omega)).sl, q3⟩) ((B4.chg c5 (by simp)).chg p9.chg (by simp; omega)) ((hc3.nil c5).fresh p9.chg (by simp; omega)) (by rw [hd]) (fun _ => ⟨rfl, by rw [hd]⟩) (fun h => absurd h (by decide)))
  refine And.intro rfl (And.intro (fun hop => ?_) (fun n11 => ?_))
  · have ed : doneT t e = (if 0 ≤ e.num ∧ e.num < t.list.length then ({ t with list := t.list.set e.num.toNat e.text }, 0) else (t, 4)) := by unfold doneT; simp [hop]
    refine Exists.intro _ (And.intro (cell_blk B3 rfl) ?_)
    refine And.intro rfl (And.intro (fun hneg => ?_) (fun hneg => ?_))
    · have hd : doneT t e = (t, 4) := by rw [ed, if_neg (by omega)]
      have tx3 : TH h3 [.int .i64 t.kind, .string t.text, .slice pa t.pairs.length pc, .slice la t.list.length lc, .slice ra t.ranks.length rc, .bool t.hasU, .int .i64 t.unt] t := ⟨_, _, _, rfl, hp3, hl3, hr3⟩
      refine Exists.intro _ (And.intro rfl (And.intro (cells_blk B2) ?_))
      refine Exists.intro _ (And.intro B4 (And.intro (by decide) (And.intro rfl (And.intro (thing_one tx3) ?_))))
      intro h4 p4
      have C4 : Blk h4 b4 [.int .i64 t.kind, .string t.text, .slice pa t.pairs.length pc, .slice la t.list.length lc, .slice ra t.ranks.length rc, .bool t.hasU, .int .i64 t.unt] := p4.blk
      refine Exists.intro _ (And.intro rfl (And.intro (cells_blk C4) ?_))
      have c1 := hc3.fresh p4.chg (by simp; omega)
      exact done_fin (by rw [hd]) (t' := t) (fun _ _ _ _ x => x) (fun h => absurd h (by decide)) c1
    refine Exists.intro _ (And.intro (cell_blk B3 rfl) (Exists.intro _ (And.intro (cell_blk B2 rfl) ?_)))
    refine And.intro rfl (And.intro (fun hbig => ?_) (fun hbig => ?_))
    · have hd : doneT t e = (t, 4) := by rw [ed, if_neg (by omega)]
      have tx3 : TH h3 [.int .i64 t.kind, .string t.text, .slice pa t.pairs.length pc, .slice la t.list.length lc, .slice ra t.ranks.length rc, .bool t.hasU, .int .i64 t.unt] t := ⟨_, _, _, rfl, hp3, hl3, hr3⟩
      refine Exists.intro _ (And.intro rfl (And.intro (cells_blk B2) ?_))
      refine Exists.intro _ (And.intro B4 (And.intro (by decide) (And.intro rfl (And.intro (thing_one tx3) ?_))))
      intro h4 p4
      have C4 : Blk h4 b4 [.int .i64 t.kind, .string t.text, .slice pa t.pairs.length pc, .slice la t.list.length lc, .slice ra t.ranks.length rc, .bool t.hasU, .int .i64 t.unt] := p4.blk
      refine Exists.intro _ (And.intro rfl (And.intro (cells_blk C4) ?_))
      have c1 := hc3.fresh p4.chg (by simp; omega)
      exact done_fin (by rw [hd]) (t' := t) (fun _ _ _ _ x => x) (fun h => absurd h (by decide)) c1
    have hin : 0 ≤ e.num ∧ e.num < t.list.length := by omega
    have hd : doneT t e = ({ t with list := t.list.set e.num.toNat e.text }, 0) := by rw [ed, if_pos hin]
    obtain ⟨n, hnn⟩ : ∃ n : Nat, e.num = n := ⟨e.num.toNat, by omega⟩
    have hnl : n < t.list.length := by omega
    have hnt : e.num.toNat = n := by omega
    refine Exists.intro _ (And.intro (cell_blk B2 rfl) ?_)
    refine app_new encS_len encS_one rfl hl3 (by omega) ?_
    intro v5 h5 ho5 c5 hb5
    obtain ⟨va, vc, rfl, hvc⟩ := ho5.sl.form
    have s5 := c5.size
    refine Exists.intro _ (And.intro (B2.chg c5 (by simp)) (And.intro (by simp) (And.intro rfl (And.intro (ones1 rfl) ?_))))
    intro h6 p6
    have C2 : Blk h6 b2 [.int .i64 t.kind, .string t.text, .slice pa t.pairs.length pc, .slice va t.list.length vc, .slice ra t.ranks.length rc, .bool t.hasU, .int .i64 t.unt] := p6.blk
    have c6 : Chg [b2] h3 h6 := (c5.mono (by simp)).trans p6.chg (fun _ hx => hx) (fun _ hx _ => hx)
    have C3 : Blk h6 b3 (encD e) := B3.chg c6 (by simp; omega)
    have ho6 := ho5.chg p6.chg (fun b hb => by have := hb5 b hb; simp; omega)
    obtain ⟨_, hopen⟩ := ho6.open
    rcases hopen with ⟨_, e0, _⟩ | ⟨b, rfl, hle, rest, B, hbl⟩
    · rw [e0] at hnl; exact absurd hnl (by simp)
    have hbb : h3.size ≤ b := hb5 b (by simp [vblk, ablk])
    refine Exists.intro _ (And.intro (cell_blk C2 rfl) (Exists.intro _ (And.intro (cell_blk C3 rfl) (Exists.intro _ (And.intro (cell_blk C3 rfl) ?_)))))
    refine And.intro hin.1 (And.intro hin.2 ?_)
    obtain ⟨q1, q2⟩ := set_cells (enc := encS) t.list n hnl e.text rest
    rw [q1] at B
    refine Exists.intro _ (And.intro B (And.intro ?_ (And.intro rfl (And.intro (ones1 rfl) ?_))))
    · rw [hnt, ← q1, hbl]; omega
    intro h7 p7
    have zi := take_len encS_len t.list n (by omega)
    have e7 : splice ((t.list.take n).flatMap encS ++ (encS t.list[n] ++ ((t.list.drop (n + 1)).flatMap encS ++ rest))) (0 + e.num.toNat * 1) [.string e.text] = (t.list.set n e.text).flatMap encS ++ rest := by
      rw [q2, hnt, show 0 + n * 1 = ((t.list.take n).flatMap encS).length by rw [zi]; omega]
      exact splice_at _ _ _ _ rfl
    have P7 : Put h6 h7 b ((t.list.set n e.text).flatMap encS ++ rest) := by
      rw [← e7]; exact p7
    have O7 : OL encS 1 h7 (.slice (some ⟨b, 0, none⟩) t.list.length vc) (t.list.set n e.text) := by
      refine OL.mk (rest := rest) (by simp) (by simp; exact hle) P7.blk ?_
      rw [← hbl]
      simp only [List.length_append, flatMap_len encS_len, List.length_set]
    have c7 : Chg [b2, b] h3 h7 := (c6.mono (by simp)).trans P7.chg (fun _ hx => hx) (fun x hx _ => by simp at hx; simp [hx])
    have D2 := C2.chg P7.chg (by simp; omega)
    rw [hnt] at hd
    exact cut_at [(2, ptr b2), (4, ptr b4), (6, .bool (true))] ⟨rfl, rfl, rfl, trivial⟩ (fin h7 (true) (0) { t with list := t.list.set n e.text } _ (D2) (fun S h10 hS c2 q1 q2 q3 => ⟨_, _, _, by simp, q1, (O7.chg c2 (fun b hb hx => by simp [vblk, ablk] at hb; have := hS b hx; omega)).sl, q3⟩) (B4.chg c7 (by simp; omega)) (hc3.fresh c7 (by simp; omega)) (by rw [hd]) (fun _ => ⟨rfl, by rw [hd]⟩) (fun h => absurd h (by decide)))
  refine And.intro rfl (And.intro (fun hop => ?_) (fun n12 => ?_))
  · have hd : doneT t e = ({ t with list := putF (fun x => decide (x = e.name)) (fun x => sless e.name x) e.name t.list false }, 0) := by unfold doneT; simp [hop]
    refine Exists.intro _ (And.intro (cell_blk B2 rfl) (Exists.intro _ (And.intro (cell_blk B3 rfl) ?_)))
    refine call_ret (members_calls e.name true hl3 (by omega) hz nm.ls) ?_
    rintro _ h4 ⟨⟨u, rfl, ho, hfr⟩, c4⟩
    rw [goF_put] at ho
    obtain ⟨ua, uc, rfl, _⟩ := ho.sl.form
    refine Exists.intro _ (And.intro (B2.chg c4 (by simp)) (And.intro (by simp) (And.intro rfl (And.intro (ones1 rfl) ?_))))
    intro h5 p5
    have c5 : Chg [] h h5 := (hc3.nil c4).fresh p5.chg (by simp; omega)
    have ho5 := ho.chg p5.chg (fun b hb => by have := hfr b hb; simp; omega)
    have C4 : Blk h5 b4 zeroV := (B4.chg c4 (by simp)).chg p5.chg (by simp; omega)
    exact cut_at [(2, ptr b2), (4, ptr b4), (6, .bool (true))] ⟨rfl, rfl, rfl, trivial⟩ (fin h5 (true) (0) ({ t with list := putF (fun x => decide (x = e.name)) (fun x => sless e.name x) e.name t.list false }) _ (p5.blk) (fun S h10 hS c2 q1 q2 q3 => ⟨_, _, _, rfl, q1, (ho5.chg c2 (fun b hb hx => by have := hfr b hb; have := hS b hx; omega)).sl, q3⟩) (C4) (c5) (by rw [hd]) (fun _ => ⟨rfl, by rw [hd]⟩) (fun h => absurd h (by decide)))
  refine And.intro rfl (And.intro (fun hop => ?_) (fun n13 => ?_))
  · have hd : doneT t e = ({ t with list := delF (fun x => decide (x = e.name)) t.list }, if t.list.any (fun x => decide (x = e.name)) then 0 else 5) := by unfold doneT; simp [hop]
    refine Exists.intro _ (And.intro (cell_blk B2 rfl) (Exists.intro _ (And.intro (cell_blk B3 rfl) ?_)))
    refine call_ret (members_calls e.name false hl3 (by omega) hz nm.ls) ?_
    rintro _ h4 ⟨⟨u, rfl, ho, hfr⟩, c4⟩
    rw [goF_del] at ho
    obtain ⟨ua, uc, rfl, _⟩ := ho.sl.form
    refine Exists.intro _ (And.intro (B2.chg c4 (by simp)) (And.intro (by simp) (And.intro rfl (And.intro (ones1 rfl) ?_))))
    intro h5 p5
    have c5 : Chg [] h h5 := (hc3.nil c4).fresh p5.chg (by simp; omega)
    have ho5 := ho.chg p5.chg (fun b hb => by have := hfr b hb; simp; omega)
    have C4 : Blk h5 b4 zeroV := (B4.chg c4 (by simp)).chg p5.chg (by simp; omega)
    exact cut_at [(2, ptr b2), (4, ptr b4), (6, .bool (t.list.any (fun x => decide (x = e.name))))] ⟨rfl, rfl, rfl, trivial⟩ (fin h5 (t.list.any (fun x => decide (x = e.name))) (if t.list.any (fun x => decide (x = e.name)) then 0 else 5) ({ t with list := delF (fun x => decide (x = e.name)) t.list }) _ (p5.blk) (fun S h10 hS c2 q1 q2 q3 => ⟨_, _, _, rfl, q1, (ho5.chg c2 (fun b hb hx => by have := hfr b hb; have := hS b hx; omega)).sl, q3⟩) (C4) (c5) (by rw [hd]) (fun h => ⟨if_pos h, by rw [hd]⟩) (fun h => if_neg (by rw [h]; simp)))
  refine And.intro rfl (And.intro (fun hop => ?_) (fun n14 => ?_))
  · have hd : doneT t e = ({ t with ranks := putF (fun x => decide (x.name = e.name)) (fun x => aheadR ⟨e.name, e.num⟩ x) ⟨e.name, e.num⟩ t.ranks false }, 0) := by unfold doneT; simp [hop]
    refine Exists.intro _ (And.intro (cell_blk B2 rfl) (Exists.intro _ (And.intro (cell_blk B3 rfl) (Exists.intro _ (And.intro (cell_blk B3 rfl) ?_)))))
    refine call_ret (ranksR_calls ⟨e.name, e.num⟩ true hr3 (by omega) hz nm.rs) ?_
    rintro _ h4 ⟨⟨u, rfl, ho, hfr⟩, c4⟩
    rw [goF_put] at ho
    obtain ⟨ua, uc, rfl, _⟩ := ho.sl.form
    refine Exists.intro _ (And.intro (B2.chg c4 (by simp)) (And.intro (by simp) (And.intro rfl (And.intro (ones1 rfl) ?_))))
    intro h5 p5
    have c5 : Chg [] h h5 := (hc3.nil c4).fresh p5.chg (by simp; omega)
    have ho5 := ho.chg p5.chg (fun b hb => by have := hfr b hb; simp; omega)
    have C4 : Blk h5 b4 zeroV := (B4.chg c4 (by simp)).chg p5.chg (by simp; omega)
    exact cut_at [(2, ptr b2), (4, ptr b4), (6, .bool (true))] ⟨rfl, rfl, rfl, trivial⟩ (fin h5 (true) (0) ({ t with ranks := putF (fun x => decide (x.name = e.name)) (fun x => aheadR ⟨e.name, e.num⟩ x) ⟨e.name, e.num⟩ t.ranks false }) _ (p5.blk) (fun S h10 hS c2 q1 q2 q3 => ⟨_, _, _, rfl, q1, q2, (ho5.chg c2 (fun b hb hx => by have := hfr b hb; have := hS b hx; omega)).sl⟩) (C4) (c5) (by rw [hd]) (fun _ => ⟨rfl, by rw [hd]⟩) (fun h => absurd h (by decide)))
  refine And.intro rfl (And.intro (fun hop => ?_) (fun n15 => ?_))
  · have hd : doneT t e = ({ t with ranks := delF (fun x => decide (x.name = e.name)) t.ranks }, if t.ranks.any (fun x => decide (x.name = e.name)) then 0 else 5) := by unfold doneT; simp [hop]
    refine Exists.intro _ (And.intro (cell_blk B2 rfl) (Exists.intro _ (And.intro (cell_blk B3 rfl) ?_)))
    refine call_ret (ranksR_calls ⟨e.name, 0⟩ false hr3 (by omega) hz nm.rs) ?_
    rintro _ h4 ⟨⟨u, rfl, ho, hfr⟩, c4⟩
    rw [goF_del] at ho
    obtain ⟨ua, uc, rfl, _⟩ := ho.sl.form
    refine Exists.intro _ (And.intro (B2.chg c4 (by simp)) (And.intro (by simp) (And.intro rfl (And.intro (ones1 rfl) ?_))))
    intro h5 p5
    have c5 : Chg [] h h5 := (hc3.nil c4).fresh p5.chg (by simp; omega)
    have ho5 := ho.chg p5.chg (fun b hb => by have := hfr b hb; simp; omega)
    have C4 : Blk h5 b4 zeroV := (B4.chg c4 (by simp)).chg p5.chg (by simp; omega)
    exact cut_at [(2, ptr b2), (4, ptr b4), (6, .bool (t.ranks.any (fun x => decide (x.name = e.name))))] ⟨rfl, rfl, rfl, trivial⟩ (fin h5 (t.ranks.any (fun x => decide (x.name = e.name))) (if t.ranks.any (fun x => decide (x.name = e.name)) then 0 else 5) ({ t with ranks := delF (fun x => decide (x.name = e.name)) t.ranks }) _ (p5.blk) (fun S h10 hS c2 q1 q2 q3 => ⟨_, _, _, rfl, q1, q2, (ho5.chg c2 (fun b hb hx => by have := hfr b hb; have := hS b hx; omega)).sl⟩) (C4) (c5) (by rw [hd]) (fun h => ⟨if_pos h, by rw [hd]⟩) (fun h => if_neg (by rw [h]; simp)))
  have hd : doneT t e = (t, 0) := by unfold doneT; simp [n1, n2, n3, n4, n5, n6, n7, n8, n9, n10, n11, n12, n13, n14, n15]
  exact cut_at [(2, ptr b2), (4, ptr b4), (6, .bool (true))] ⟨rfl, rfl, rfl, trivial⟩ (fin h3 (true) (0) t _ (B2) (fun S h10 hS c2 q1 q2 q3 => ⟨_, _, _, rfl, q1, q2, q3⟩) (B4) (hc3) (by rw [hd]) (fun _ => ⟨rfl, by rw [hd]⟩) (fun h => absurd h (by decide)))

end Go.Proofs.YtaffnlibmkcgiaaGreat
namespace Go.Proofs.YtaffnlibmkcgiaaGreat
open Go Go.Sx Go.Proofs.YtaffnlibmkcgiaaGreat.C

theorem TH.kind {h : Heap} {vs : List Value} {t : Thing} (x : TH h vs t) : vs[0]? = some (.int .i64 t.kind) := by
  obtain ⟨pv, lv, rv, rfl, _⟩ := x
  rfl

theorem doneT_named {t : Thing} {e : Eff} (n : Named t) (hn : e.name.size < 4611686018427387904) (ht : e.text.size < 4611686018427387904) : Named (doneT t e).1 := by
  have z : ∀ t : Thing, t.pairs = [] → t.list = [] → t.ranks = [] → Named t := fun t h1 h2 h3 => ⟨by rw [h1]; simp, by rw [h2]; simp, by rw [h3]; simp⟩
  refine doneT_cases (P := fun r => Named r.1) (z _ rfl rfl rfl) (z _ rfl rfl rfl) ⟨n.ps, n.ls, n.rs⟩ ⟨n.ps, n.ls, n.rs⟩ (fun _ => ⟨fun x hx => ?_, n.ls, n.rs⟩) (fun _ => ⟨fun x hx => n.ps x (List.mem_filter.1 hx).1, n.ls, n.rs⟩)
    (fun _ => ⟨n.ps, fun x hx => ?_, n.rs⟩) (fun _ => ⟨n.ps, fun x hx => ?_, n.rs⟩) ⟨n.ps, fun x hx => n.ls x (List.mem_of_mem_tail hx), n.rs⟩ ⟨n.ps, fun x hx => n.ls x ((List.dropLast_sublist _).subset hx), n.rs⟩
    (fun _ => ⟨n.ps, fun x hx => ?_, n.rs⟩) n ⟨n.ps, fun x hx => ?_, n.rs⟩ ⟨n.ps, fun x hx => n.ls x (List.mem_filter.1 hx).1, n.rs⟩ (fun _ => ⟨n.ps, n.ls, fun x hx => ?_⟩) (fun _ => ⟨n.ps, n.ls, fun x hx => n.rs x (List.mem_filter.1 hx).1⟩) n
  · rcases mem_putF hx with rfl | ⟨hx, _⟩
    · exact hn
    · exact n.ps x hx
  · rcases List.mem_cons.1 hx with rfl | hx
    · exact ht
    · exact n.ls x hx
  · rcases List.mem_append.1 hx with hx | hx
    · exact n.ls x hx
    · rw [List.mem_singleton.1 hx]; exact ht
  · rcases List.mem_or_eq_of_mem_set hx with hx | rfl
    · exact n.ls x hx
    · exact ht
  · rcases mem_putF hx with rfl | ⟨hx, _⟩
    · exact hn
    · exact n.ls x hx
  · rcases mem_putF hx with rfl | ⟨hx, _⟩
    · exact hn
    · exact n.rs x hx

theorem pr_up {l : List RX} (hu : UpX l) : UpS (l.map RX.pr) := List.Pairwise.map RX.pr (fun _ _ h => h) hu

theorem find_yes {l : List RX} (hu : UpX l) {key : ByteArray} {i : Nat} (hi : i < l.length) (hk : l[i].key = key) : findS (l.map RX.pr) key = some l[i].thing := by
  refine findS_some (pr_up hu) (List.mem_map.2 ⟨l[i], List.getElem_mem hi, ?_⟩)
  unfold RX.pr; rw [hk]

theorem find_no {l : List RX} (hu : UpX l) {key : ByteArray} (hb : (findX key l).2 = false) : findS (l.map RX.pr) key = none := by
  refine findS_none fun p hp => ?_
  obtain ⟨x, hx, rfl⟩ := List.mem_map.1 hp
  intro hk
  rw [findX_has hu ⟨x, hx, hk⟩] at hb
  cases hb

theorem put_pr {l : List RX} (hu : UpX l) (x : RX) : (putX l x).map RX.pr = putS (l.map RX.pr) x.key x.thing :=
  up_ext (lt := fun a b : ByteArray × Thing => sless a.1 b.1 = true) (fun a b => sless_asymm a.1 b.1) (pr_up (up_putX hu)) (up_putS (pr_up hu)) fun p => by
    rw [mem_putS, List.mem_map]
    constructor
    · rintro ⟨y, hy, rfl⟩
      rcases (mem_putX hu).1 hy with rfl | ⟨hy, hk⟩
      · exact .inl rfl
      · exact .inr ⟨List.mem_map_of_mem hy, hk⟩
    · rintro (rfl | ⟨hp, hk⟩)
      · exact ⟨x, (mem_putX hu).2 (.inl rfl), rfl⟩
      · obtain ⟨y, hy, rfl⟩ := List.mem_map.1 hp
        exact ⟨y, (mem_putX hu).2 (.inr ⟨hy, hk⟩), rfl⟩

theorem drop_pr {l : List RX} (hu : UpX l) (key : ByteArray) : (dropX l key).map RX.pr = dropS (l.map RX.pr) key :=
  up_ext (lt := fun a b : ByteArray × Thing => sless a.1 b.1 = true) (fun a b => sless_asymm a.1 b.1) (pr_up (up_dropX hu)) (up_dropS (pr_up hu)) fun p => by
    rw [mem_dropS, List.mem_map]
    constructor
    · rintro ⟨y, hy, rfl⟩
      obtain ⟨hy, hk⟩ := (mem_dropX hu).1 hy
      exact ⟨List.mem_map_of_mem hy, hk⟩
    · rintro ⟨hp, hk⟩
      obtain ⟨y, hy, rfl⟩ := List.mem_map.1 hp
      exact ⟨y, (mem_dropX hu).2 ⟨hy, hk⟩, rfl⟩

/-- Lists of things as the reference holds them. -/
structure RG (l : List RX) : Prop where
  up : UpX l
  len : l.length ≤ 65536
  fit : KeysFit l
  tin : ∀ x ∈ l, TIn x.thing
  nm : ∀ x ∈ l, Named x.thing

theorem RG.ins {l : List RX} (g : RG l) : InS (l.map RX.pr) := by
  intro p hp
  obtain ⟨x, hx, rfl⟩ := List.mem_map.1 hp
  exact g.tin x hx

theorem RG.drop {l : List RX} (g : RG l) (key : ByteArray) : RG (dropX l key) := by
  refine ⟨up_dropX g.up, ?_, fun x hx => g.fit x ((mem_dropX g.up).1 hx).1, fun x hx => g.tin x ((mem_dropX g.up).1 hx).1, fun x hx => g.nm x ((mem_dropX g.up).1 hx).1⟩
  have := g.len
  unfold dropX
  split
  · simp only [List.length_append, List.length_take, List.length_drop]; omega
  · exact this

theorem RG.put {l : List RX} (g : RG l) {x : RX} (hl : (findX x.key l).2 = true ∨ l.length < 65536) (hk : x.key.size < 4611686018427387904) (ht : TIn x.thing) (hn : Named x.thing) : RG (putX l x) := by
  refine ⟨up_putX g.up, ?_, fun y hy => ?_, fun y hy => ?_, fun y hy => ?_⟩
  · have := g.len
    cases hb : (findX x.key l).2 with
    | false =>
      rw [putX_new hb]
      rcases hl with h | h
      · rw [hb] at h; cases h
      · omega
    | true =>
      obtain ⟨hlt, _⟩ := findX_hit x.key l hb
      unfold putX
      simp only [List.length_append, List.length_take, List.length_drop, List.length_cons, List.length_nil, hb, if_true]
      omega
  · rcases (mem_putX g.up).1 hy with rfl | ⟨hy, _⟩
    · exact hk
    · exact g.fit y hy
  · rcases (mem_putX g.up).1 hy with rfl | ⟨hy, _⟩
    · exact ht
    · exact g.tin y hy
  · rcases (mem_putX g.up).1 hy with rfl | ⟨hy, _⟩
    · exact hn
    · exact g.nm y hy

def argBad (r : Rule) (e : Eff) : Prop := (r.name = false ∧ e.name ≠ noText) ∨ (r.text = false ∧ e.text ≠ noText) ∨ (r.number = false ∧ e.num ≠ 0)
def longBad (e : Eff) : Prop := 1048576 < e.key.size ∨ 1048576 < e.name.size ∨ 1048576 < e.text.size

theorem fate_op {S : Space} {e : Eff} (h : ruleR e.op = none) : fateS S e = .no 2 := by unfold fateS oneF; rw [h]
theorem fate_arg {S : Space} {e : Eff} {r : Rule} (h : ruleR e.op = some r) (h1 : argBad r e) : fateS S e = .no 2 := by
  unfold argBad at *; unfold fateS oneF; rw [h]; simp only; rw [if_pos h1]
theorem fate_long {S : Space} {e : Eff} {r : Rule} (h : ruleR e.op = some r) (h1 : ¬ argBad r e) (h2 : longBad e) : fateS S e = .no 3 := by
  unfold argBad longBad at *; unfold fateS oneF; rw [h]; simp only; rw [if_neg h1, if_pos h2]
theorem fate_miss {S : Space} {e : Eff} {r : Rule} (h : ruleR e.op = some r) (h1 : ¬ argBad r e) (h2 : ¬ longBad e) (h3 : findS S e.key = none) (h4 : r.makes = false) : fateS S e = .no 5 := by
  unfold argBad longBad at *; unfold fateS oneF; rw [h]; simp only; rw [if_neg h1, if_neg h2, h3]; simp only; rw [if_pos h4]
theorem fate_first {S : Space} {e : Eff} {r : Rule} (h : ruleR e.op = some r) (h1 : ¬ argBad r e) (h2 : ¬ longBad e) (h3 : findS S e.key = none) (h4 : r.makes = true) :
    fateS S e = endF (doneT { zeroT with kind := r.kind } e) false (decide (65536 ≤ S.length)) := by
  unfold argBad longBad at *; unfold fateS oneF; rw [h]; simp only; rw [if_neg h1, if_neg h2, h3]; simp only; rw [if_neg (by rw [h4]; simp)]
theorem fate_kind {S : Space} {e : Eff} {r : Rule} {t : Thing} (h : ruleR e.op = some r) (h1 : ¬ argBad r e) (h2 : ¬ longBad e) (h3 : findS S e.key = some t) (h4 : r.kind ≠ 0 ∧ t.kind ≠ r.kind) : fateS S e = .no 170 := by
  unfold argBad longBad at *; unfold fateS oneF; rw [h]; simp only; rw [if_neg h1, if_neg h2, h3]; simp only; rw [if_pos h4]
theorem fate_old {S : Space} {e : Eff} {r : Rule} {t : Thing} (h : ruleR e.op = some r) (h1 : ¬ argBad r e) (h2 : ¬ longBad e) (h3 : findS S e.key = some t) (h4 : ¬ (r.kind ≠ 0 ∧ t.kind ≠ r.kind)) :
    fateS S e = endF (doneT t e) true (decide (65536 ≤ S.length)) := by
  unfold argBad longBad at *; unfold fateS oneF; rw [h]; simp only; rw [if_neg h1, if_neg h2, h3]; simp only; rw [if_neg h4]

def OneR (h : Heap) (l : List RX) (e : Eff) (r : Value) (h' : Heap) : Prop :=
  (∃ v' l', r = .tuple #[v', .int .i64 (fateS (l.map RX.pr) e).num] ∧ SL encX h' v' l' ∧ GX h' l' ∧ RG l' ∧ l'.map RX.pr = (fateS (l.map RX.pr) e).space (l.map RX.pr) e.key) ∧ Chg [] h h'

theorem oneR_no {h h' : Heap} {l : List RX} {e : Eff} {v : Value} {n : Int} (hf : fateS (l.map RX.pr) e = .no n) (hv : SL encX h v l) (g : GX h l) (rg : RG l) (c : Chg [] h h') :
    Ret (OneR h l e) (.returned (retV [v, .int .i64 n])) h' :=
  ⟨⟨v, l, by rw [hf]; rfl, hv.ext c, g.ext c, rg, by rw [hf]; rfl⟩, c⟩

theorem oneR_drop {h h' : Heap} {l : List RX} {e : Eff} {v : Value} (hf : fateS (l.map RX.pr) e = .drop) (hv : SL encX h' v (dropX l e.key)) (g : GX h l) (rg : RG l) (c : Chg [] h h') :
    Ret (OneR h l e) (.returned (retV [v, .int .i64 0])) h' :=
  ⟨⟨v, _, by rw [hf]; rfl, hv, fun x hx => (g.ext c) x ((mem_dropX rg.up).1 hx).1, rg.drop _, by rw [hf]; exact drop_pr rg.up _⟩, c⟩

theorem oneR_put {h h' : Heap} {l : List RX} {e : Eff} {v : Value} {x : RX} (hf : fateS (l.map RX.pr) e = .put x.thing) (hk : x.key = e.key) (hv : SL encX h' v (putX l x)) (g : GX h l) (rg : RG l) (hl : (findX x.key l).2 = true ∨ l.length < 65536)
    (hz : e.key.size < 4611686018427387904) (hn : Named x.thing) (tx : TH h' x.vs x.thing) (c : Chg [] h h') : Ret (OneR h l e) (.returned (retV [v, .int .i64 0])) h' := by
  refine ⟨⟨v, _, by rw [hf]; rfl, hv, fun y hy => ?_, rg.put hl (by rw [hk]; exact hz) (oneF_in rg.ins hf) hn, by rw [hf, put_pr rg.up, hk]; rfl⟩, c⟩
  rcases (mem_putX rg.up).1 hy with rfl | ⟨hy, _⟩
  · exact tx
  · exact (g.ext c) y hy

theorem makes_yes {op : Int} {r : Rule} (h : ruleR op = some r) (ho : op = 2 ∨ op = 5 ∨ op = 7 ∨ op = 8 ∨ op = 12 ∨ op = 14) : r.makes = true := by
  rcases ho with rfl | rfl | rfl | rfl | rfl | rfl <;> (injection (show some _ = some r from h) with h; rw [← h])

theorem makes_no {op : Int} {r : Rule} (h : ruleR op = some r) (n2 : ¬ op = 2) (n5 : ¬ op = 5) (n7 : ¬ op = 7) (n8 : ¬ op = 8) (n12 : ¬ op = 12) (n14 : ¬ op = 14) : r.makes = false := by
  by_cases h1 : op = 1; · subst h1; injection (show some _ = some r from h) with h; rw [← h]
  by_cases h3 : op = 3; · subst h3; injection (show some _ = some r from h) with h; rw [← h]
  by_cases h4 : op = 4; · subst h4; injection (show some _ = some r from h) with h; rw [← h]
  by_cases h6 : op = 6; · subst h6; injection (show some _ = some r from h) with h; rw [← h]
  by_cases h9 : op = 9; · subst h9; injection (show some _ = some r from h) with h; rw [← h]
  by_cases h10 : op = 10; · subst h10; injection (show some _ = some r from h) with h; rw [← h]
  by_cases h11 : op = 11; · subst h11; injection (show some _ = some r from h) with h; rw [← h]
  by_cases h13 : op = 13; · subst h13; injection (show some _ = some r from h) with h; rw [← h]
  by_cases h15 : op = 15; · subst h15; injection (show some _ = some r from h) with h; rw [← h]
  unfold ruleR at h
  simp [h1, n2, h3, h4, n5, h6, n7, n8, h9, h10, h11, n12, h13, n14, h15] at h

theorem kind_three {op : Int} {r : Rule} (h : ruleR op = some r) (ho : op = 9 ∨ op = 10) : r.kind = 3 ∧ r.makes = false := by
  rcases ho with rfl | rfl <;> (injection (show some _ = some r from h) with h; rw [← h]; exact ⟨rfl, rfl⟩)

end Go.Proofs.YtaffnlibmkcgiaaGreat
namespace Go.Proofs.YtaffnlibmkcgiaaGreat
open Go Go.Sx Go.Proofs.YtaffnlibmkcgiaaGreat.C

theorem seven7 {ws vs : List Value} (hw : ws.length = 7) (hv : vs.length = 7) : splice ws 0 vs = vs := seven hw hv

theorem endF_no {r : Thing × Int} {there full : Bool} (h : r.2 ≠ 0) : endF r there full = .no r.2 := by unfold endF; rw [if_pos h]
theorem endF_drop {r : Thing × Int} {there full : Bool} (h : r.2 = 0) (h2 : r.1.kind ≠ 1 ∧ countT r.1 = 0) : endF r there full = .drop := by unfold endF; rw [if_neg (by simp [h]), if_pos h2]
theorem endF_big {r : Thing × Int} {there full : Bool} (h : r.2 = 0) (h2 : ¬ (r.1.kind ≠ 1 ∧ countT r.1 = 0)) (h3 : 65536 < countT r.1 ∨ (there = false ∧ full = true)) : endF r there full = .no 3 := by unfold endF; rw [if_neg (by simp [h]), if_neg h2, if_pos h3]
theorem endF_yes {r : Thing × Int} {there full : Bool} (h : r.2 = 0) (h2 : ¬ (r.1.kind ≠ 1 ∧ countT r.1 = 0)) (h3 : ¬ (65536 < countT r.1 ∨ (there = false ∧ full = true))) : endF r there full = .put r.1 := by unfold endF; rw [if_neg (by simp [h]), if_neg h2, if_neg h3]

/-- The end: what done has made is dropped, refused or put. -/
theorem one_end {h h5 : Heap} {b3 b14 : Nat} {v : Value} {l : List RX} {e : Eff} {us : List Value} {r : Thing × Int} {there : Bool} (hv : SL encX h v l) (g : GX h l) (rg : RG l) (c5 : Chg [] h h5) (B3 : Blk h5 b3 (encD e)) (B14 : Blk h5 b14 us)
    (tx : TH h5 us r.1) (h0 : r.2 = 0) (hf : fateS (l.map RX.pr) e = endF r there (decide (65536 ≤ l.length))) (hth : (findX e.key l).2 = there) (hz : e.key.size < 4611686018427387904) (hlen : Lens r.1) (hnm : Named r.1) :
    swp Tryz.prog (.seq (.seq (.ops f16r19) (.cond (.tmp 145) (.seq (.ops f16r20) .ret) .skip)) (.seq (.seq (.ops f16r21) (.cond (.tmp 161) (.seq (.ops f16r22) .ret) .skip)) (.seq (.ops f16r23) .ret))) (retQ [.t 4, .t 5] (Ret (OneR h l e))) (mk [(0, v), (3, ptr b3), (12, .bool there), (14, ptr b14)]) [] h5 := by
  obtain ⟨a, cc, rfl, hlc⟩ := hv.form
  have hl := rg.len
  have yes : ∀ h6, Chg [] h h6 → Chg [] h5 h6 → ¬ (r.1.kind ≠ 1 ∧ countT r.1 = 0) →
      swp Tryz.prog (.seq (.seq (.ops f16r21) (.cond (.tmp 161) (.seq (.ops f16r22) .ret) .skip)) (.seq (.ops f16r23) .ret)) (retQ [.t 4, .t 5] (Ret (OneR h l e))) (mk [(0, .slice a l.length cc), (3, ptr b3), (12, .bool there), (14, ptr b14)]) [] h6 := by
    intro h6 c6 d6 hnd
    have C3 := B3.chg d6 (by simp)
    have C14 := B14.chg d6 (by simp)
    have tx6 := tx.ext d6
    refine Exists.intro us (And.intro tx6.len (And.intro (cells_blk C14) ?_))
    refine call_ret (RCount_calls tx6 hlen) ?_
    rintro _ h7 ⟨rfl, c7⟩
    have c07 := c6.nil c7
    have put : ¬ (65536 < countT r.1 ∨ (there = false ∧ decide (65536 ≤ l.length) = true)) →
        swp Tryz.prog (.seq (.ops f16r23) .ret) (retQ [.t 4, .t 5] (Ret (OneR h l e))) (mk [(0, .slice a l.length cc), (3, ptr b3), (14, ptr b14)]) [] h7 := by
      intro hnb
      rw [endF_yes h0 hnd hnb] at hf
      have tx7 := tx6.ext c7
      refine Exists.intro _ (And.intro (cell_blk (C3.chg c7 (by simp)) rfl) ?_)
      refine Exists.intro us (And.intro tx7.len (And.intro (cells_blk (C14.chg c7 (by simp))) ?_))
      refine call_ret (Put_calls ⟨e.key, r.1, us, tx7.len, thing_one tx7⟩ (hv.ext c07) (by omega) hz rg.fit) ?_
      rintro w h8 ⟨ho, _, c8⟩
      refine oneR_put (x := ⟨e.key, r.1, us, tx7.len, thing_one tx7⟩) hf rfl ho.sl g rg ?_ hz hnm (tx7.ext c8) (c07.nil c8)
      show (findX e.key l).2 = true ∨ _
      rw [hth]
      cases there with
      | true => exact .inl rfl
      | false =>
        refine .inr ?_
        rcases Nat.lt_or_ge l.length 65536 with h | h
        · exact h
        · exact absurd (.inr ⟨rfl, decide_eq_true h⟩) hnb
    refine And.intro rfl (And.intro (fun hbig => ?_) (fun hbig => ?_))
    · rw [endF_big h0 hnd (.inl (by omega))] at hf
      exact oneR_no hf hv g rg c07
    · cases hthere : there with
      | true =>
        subst hthere
        exact cut_at [(0, .slice a l.length cc), (3, ptr b3), (14, ptr b14)] ⟨rfl, rfl, rfl, trivial⟩ (put (fun h => h.elim (fun h => by omega) (fun h => Bool.noConfusion h.1)))
      | false =>
        subst hthere
        refine And.intro rfl (And.intro (fun hful => ?_) (fun hful => ?_))
        · rw [endF_big h0 hnd (.inr ⟨rfl, decide_eq_true (by omega)⟩)] at hf
          exact oneR_no hf hv g rg c07
        · exact cut_at [(0, .slice a l.length cc), (3, ptr b3), (14, ptr b14)] ⟨rfl, rfl, rfl, trivial⟩ (put (fun h => h.elim (fun h => by omega) (fun h => by have := of_decide_eq_true h.2; omega)))
  refine Exists.intro _ (And.intro (cell_blk B14 tx.kind) ?_)
  refine And.intro rfl (And.intro (fun hk => ?_) (fun hk => ?_))
  · refine Exists.intro us (And.intro tx.len (And.intro (cells_blk B14) ?_))
    refine call_ret (RCount_calls tx hlen) ?_
    rintro _ h6 ⟨rfl, c6⟩
    refine And.intro rfl (And.intro (fun hc => ?_) (fun hc => ?_))
    · rw [endF_drop h0 ⟨hk, by omega⟩] at hf
      refine Exists.intro _ (And.intro (cell_blk (B3.chg c6 (by simp)) rfl) ?_)
      refine call_ret (RDrop_calls e.key (hv.ext (c5.nil c6)) (by omega) hz rg.fit) ?_
      rintro w h7 ⟨hs, c7⟩
      exact oneR_drop hf hs g rg ((c5.nil c6).nil c7)
    · exact cut_at [(0, .slice a l.length cc), (3, ptr b3), (12, .bool there), (14, ptr b14)] ⟨rfl, rfl, rfl, rfl, trivial⟩ (yes h6 (c5.nil c6) c6 (fun h => hc (by omega)))
  · exact cut_at [(0, .slice a l.length cc), (3, ptr b3), (12, .bool there), (14, ptr b14)] ⟨rfl, rfl, rfl, rfl, trivial⟩ (yes h5 c5 (Chg.refl h5) (fun h => h.1 (Decidable.not_not.1 hk)))

/-- From the kind on. -/
theorem one_kind {h h3 : Heap} {b3 b14 : Nat} {v : Value} {l : List RX} {e : Eff} {us : List Value} {t : Thing} {there : Bool} {kd : Int} (hv : SL encX h v l) (g : GX h l) (rg : RG l) (c3 : Chg [] h h3) (B3 : Blk h3 b3 (encD e)) (B14 : Blk h3 b14 us) (hb3 : b3 ≠ b14)
    (hb : h.size ≤ b14) (tx : ∀ h', Chg [] h h' → TH h' us t) (hkd : kindI e.op = kd) (hbad : kd ≠ 0 ∧ t.kind ≠ kd → fateS (l.map RX.pr) e = .no 170) (hgood : ¬ (kd ≠ 0 ∧ t.kind ≠ kd) → fateS (l.map RX.pr) e = endF (doneT t e) there (decide (65536 ≤ l.length)))
    (hth : (findX e.key l).2 = there) (hz : e.key.size < 4611686018427387904) (hz2 : e.name.size < 4611686018427387904) (hz3 : e.text.size < 4611686018427387904) (hcnt : countT t ≤ 65536) (hnm : Named t)
    (hne : ¬ (kd ≠ 0 ∧ t.kind ≠ kd) → e.op = 9 ∨ e.op = 10 → t.list ≠ []) :
    swp Tryz.prog (.seq (.seq (.ops f16r14) (.cond (.tmp 126) (.seq (.ops f16r15) .ret) .skip)) (.seq (.ops f16r16) (.seq (.seq (.ops f16r17) (.cond (.tmp 135) (.seq (.ops f16r18) .ret) .skip)) (.seq (.seq (.ops f16r19) (.cond (.tmp 145) (.seq (.ops f16r20) .ret) .skip)) (.seq (.seq (.ops f16r21) (.cond (.tmp 161) (.seq (.ops f16r22) .ret) .skip)) (.seq (.ops f16r23) .ret)))))) (retQ [.t 4, .t 5] (Ret (OneR h l e))) (mk [(0, v), (3, ptr b3), (6, .int .i64 e.op), (12, .bool there), (14, ptr b14)]) [] h3 := by
  have tx3 := tx h3 c3
  have hlens : Lens t := by unfold countT at hcnt; exact ⟨by omega, by omega, by omega⟩
  have rest : ¬ (kd ≠ 0 ∧ t.kind ≠ kd) → swp Tryz.prog (.seq (.ops f16r16) (.seq (.seq (.ops f16r17) (.cond (.tmp 135) (.seq (.ops f16r18) .ret) .skip)) (.seq (.seq (.ops f16r19) (.cond (.tmp 145) (.seq (.ops f16r20) .ret) .skip)) (.seq (.seq (.ops f16r21) (.cond (.tmp 161) (.seq (.ops f16r22) .ret) .skip)) (.seq (.ops f16r23) .ret))))) (retQ [.t 4, .t 5] (Ret (OneR h l e))) (mk [(0, v), (3, ptr b3), (12, .bool there), (14, ptr b14)]) [] h3 := by
    intro hg
    have hf := hgood hg
    refine Exists.intro us (And.intro tx3.len (And.intro (cells_blk B14) ?_))
    refine Exists.intro (encD e) (And.intro rfl (And.intro (cells_blk B3) ?_))
    refine call_ret (done_calls tx3 hlens hnm hz2 (hne hg)) ?_
    rintro _ h4 ⟨⟨us', t', rfl, kp, ht'⟩, c4⟩
    have tx4 := kp [] h4 (by simp) (Chg.refl h4) (tx3.ext c4)
    refine Exists.intro _ (And.intro (B14.chg c4 (by simp)) (And.intro (by rw [tx3.len]; decide) (And.intro tx4.len (And.intro (thing_one tx4) ?_))))
    intro h5 p5
    have C14 : Blk h5 b14 us' := by
      have h8 : Blk h5 b14 (splice us 0 us') := p5.blk
      rw [seven tx3.len tx4.len] at h8
      exact h8
    have c5 : Chg [] h h5 := (c3.nil c4).fresh p5.chg (by simp; exact hb)
    have C3 : Blk h5 b3 (encD e) := (B3.chg c4 (by simp)).chg p5.chg (by simp; exact hb3)
    refine And.intro rfl (And.intro (fun he => ?_) (fun he => ?_))
    · rw [endF_no he] at hf
      exact oneR_no hf hv g rg c5
    · have h0 := Decidable.not_not.1 he
      have e' := ht' h0
      subst e'
      have hdl := doneT_len (t := t) (e := e)
      have hl5 : Lens (doneT t e).1 := by unfold countT at hdl hcnt; exact ⟨by omega, by omega, by omega⟩
      have hn14 : b14 < h4.size := (B14.chg c4 (by simp)).lt
      refine cut_at [(0, v), (3, ptr b3), (12, .bool there), (14, ptr b14)] ⟨rfl, rfl, rfl, rfl, trivial⟩ (one_end (r := doneT t e) hv g rg c5 C3 C14 (kp [b14] h5 (by simp; exact B14.lt) p5.chg (tx h5 c5)) h0 hf hth hz hl5 (doneT_named hnm hz2 hz3))
  refine callq_ret (kind_calls e.op) ?_
  rintro _ h9 ⟨rfl, e9⟩
  have e9 := e9.symm
  subst e9
  refine And.intro (Chg.refl _).ext ?_
  rw [hkd]
  refine And.intro rfl (And.intro (fun hk0 => ?_) (fun hk0 => ?_))
  · refine Exists.intro _ (And.intro (cell_blk B14 tx3.kind) ?_)
    refine callq_ret (kind_calls e.op) ?_
    rintro _ h9 ⟨rfl, e9⟩
    have e9 := e9.symm
    subst e9
    refine And.intro (Chg.refl _).ext ?_
    rw [hkd]
    refine And.intro rfl (And.intro (fun hk1 => ?_) (fun hk1 => ?_))
    · exact oneR_no (hbad ⟨hk0, hk1⟩) hv g rg c3
    · exact cut_at [(0, v), (3, ptr b3), (12, .bool there), (14, ptr b14)] ⟨rfl, rfl, rfl, rfl, trivial⟩ (rest (fun h => hk1 h.2))
  · exact cut_at [(0, v), (3, ptr b3), (12, .bool there), (14, ptr b14)] ⟨rfl, rfl, rfl, rfl, trivial⟩ (rest (fun h => hk0 h.1))

/-- From the place on. -/
theorem one_find {h h1 : Heap} {b3 : Nat} {v : Value} {l : List RX} {e : Eff} {r : Rule} (hv : SL encX h v l) (g : GX h l) (rg : RG l) (g1 : Grow h h1 b3 (encD e)) (hr : ruleR e.op = some r) (ha : ¬ argBad r e) (hlg : ¬ longBad e) :
    swp Tryz.prog (.seq (.ops f16r7) (.seq (.ops f16r8) (.seq (.seq (.ops f16r9) (.cond (.tmp 106) (.seq (.ops f16r10) .ret) .skip)) (.seq (.ops f16r11) (.seq (.seq (.ops f16r12) (.cond (.tmp 111) (.ops f16r13) .skip)) (.seq (.seq (.ops f16r14) (.cond (.tmp 126) (.seq (.ops f16r15) .ret) .skip)) (.seq (.ops f16r16) (.seq (.seq (.ops f16r17) (.cond (.tmp 135) (.seq (.ops f16r18) .ret) .skip)) (.seq (.seq (.ops f16r19) (.cond (.tmp 145) (.seq (.ops f16r20) .ret) .skip)) (.seq (.seq (.ops f16r21) (.cond (.tmp 161) (.seq (.ops f16r22) .ret) .skip)) (.seq (.ops f16r23) .ret))))))))))) (retQ [.t 4, .t 5] (Ret (OneR h l e))) (mk [(0, v), (3, ptr b3), (6, .int .i64 e.op)]) [] h1 := by
  obtain ⟨hzk, hzn, hzt⟩ : e.key.size ≤ 1048576 ∧ e.name.size ≤ 1048576 ∧ e.text.size ≤ 1048576 := by
    unfold longBad at hlg; omega
  have B3 : Blk h1 b3 (encD e) := g1.blk
  have i3 := g1.id
  have z1 := g1.size
  have c1 := g1.chg
  have hv1 := hv.ext c1
  obtain ⟨a, cc, rfl, hlc⟩ := hv.form
  have hl := rg.len
  have hslen : (l.map RX.pr).length = l.length := by simp
  have hkr : kindI e.op = r.kind := by unfold kindI; rw [hr]
  refine Exists.intro _ (And.intro (cell_blk B3 rfl) ?_)
  refine call_ret (Find_calls e.key hv1 (by omega) (by omega) rg.fit) ?_
  rintro _ h9 ⟨rfl, e9⟩
  have e9 := e9.symm
  subst e9
  obtain ⟨i, hi⟩ : ∃ i, i = (findX e.key l).1 := ⟨_, rfl⟩
  obtain ⟨fo, hfo⟩ : ∃ fo, fo = (findX e.key l).2 := ⟨_, rfl⟩
  rw [← hi, ← hfo]
  have rest : ∀ mk_ : Bool, mk_ = r.makes → swp Tryz.prog (.seq (.seq (.ops f16r9) (.cond (.tmp 106) (.seq (.ops f16r10) .ret) .skip)) (.seq (.ops f16r11) (.seq (.seq (.ops f16r12) (.cond (.tmp 111) (.ops f16r13) .skip)) (.seq (.seq (.ops f16r14) (.cond (.tmp 126) (.seq (.ops f16r15) .ret) .skip)) (.seq (.ops f16r16) (.seq (.seq (.ops f16r17) (.cond (.tmp 135) (.seq (.ops f16r18) .ret) .skip)) (.seq (.seq (.ops f16r19) (.cond (.tmp 145) (.seq (.ops f16r20) .ret) .skip)) (.seq (.seq (.ops f16r21) (.cond (.tmp 161) (.seq (.ops f16r22) .ret) .skip)) (.seq (.ops f16r23) .ret))))))))) (retQ [.t 4, .t 5] (Ret (OneR h l e))) (mk [(0, .slice a l.length cc), (3, ptr b3), (6, .int .i64 e.op), (11, .int .i64 i), (12, .bool fo), (13, .bool mk_)]) [] h1 := by
    intro mk_ hmk
    cases hfo2 : fo with
    | false =>
      subst hfo2
      have hfn := find_no rg.up hfo.symm
      cases hmk2 : mk_ with
      | false =>
        subst hmk2
        exact oneR_no (fate_miss hr ha hlg hfn hmk.symm) hv g rg c1
      | true =>
        subst hmk2
        have hff := fate_first hr ha hlg hfn hmk.symm
        rw [hslen] at hff
        refine call_ret (kind_calls e.op) ?_
        rintro _ h9 ⟨rfl, e9⟩
        have e9 := e9.symm
        subst e9
        rw [hkr]
        intro b14 h2 g2
        have tz : ∀ h', TH h' [.int .i64 r.kind, .string ⟨#[]⟩, .slice none 0 0, .slice none 0 0, .slice none 0 0, .bool false, .int .i64 0] ({ zeroT with kind := r.kind } : Thing) := fun h' => ⟨_, _, _, rfl, SL.nil, SL.nil, SL.nil⟩
        refine Exists.intro _ (And.intro g2.blk (And.intro (by decide) (And.intro rfl (And.intro (thing_one (tz h2)) ?_))))
        intro h3 p3
        have g3 := g2.put p3
        have B14 : Blk h3 b14 [.int .i64 r.kind, .string ⟨#[]⟩, .slice none 0 0, .slice none 0 0, .slice none 0 0, .bool false, .int .i64 0] := p3.blk
        have i14 := g3.id
        refine swp_seq ?_
        refine cut_at [(0, .slice a l.length cc), (3, ptr b3), (6, .int .i64 e.op), (12, .bool false), (14, ptr b14)] ⟨rfl, rfl, rfl, rfl, rfl, trivial⟩
          (one_kind hv g rg (c1.nil g3.chg) (B3.chg g3.chg (by simp)) B14 (by omega) (by omega) (fun h' _ => tz h') hkr (fun h => absurd rfl h.2) (fun _ => hff) hfo.symm (by omega) (by omega) (by omega) ?_ ⟨?_, ?_, ?_⟩ (fun _ ho => ?_))
        · show countT zeroT ≤ _; decide
        · intro x hx; exact absurd hx (by simp [zeroT])
        · intro x hx; exact absurd hx (by simp [zeroT])
        · intro x hx; exact absurd hx (by simp [zeroT])
        · rw [(kind_three hr ho).2] at hmk; cases hmk
    | true =>
      subst hfo2
      obtain ⟨hlt, hkey⟩ := findX_hit e.key l hfo.symm
      have hit : ∃ hlt : i < l.length, l[i].key = e.key := by subst hi; exact ⟨hlt, hkey⟩
      clear hlt hkey
      obtain ⟨hlt, hkey⟩ := hit
      have hfy := find_yes rg.up hlt hkey
      have hmem : l[i] ∈ l := List.getElem_mem hlt
      refine call_ret (kind_calls e.op) ?_
      rintro _ h9 ⟨rfl, e9⟩
      have e9 := e9.symm
      subst e9
      rw [hkr]
      intro b14 h2 g2
      have tz : ∀ h', TH h' [.int .i64 r.kind, .string ⟨#[]⟩, .slice none 0 0, .slice none 0 0, .slice none 0 0, .bool false, .int .i64 0] ({ zeroT with kind := r.kind } : Thing) := fun h' => ⟨_, _, _, rfl, SL.nil, SL.nil, SL.nil⟩
      refine Exists.intro _ (And.intro g2.blk (And.intro (by decide) (And.intro rfl (And.intro (thing_one (tz h2)) ?_))))
      intro h3 p3
      have g3 := g2.put p3
      have B14 : Blk h3 b14 [.int .i64 r.kind, .string ⟨#[]⟩, .slice none 0 0, .slice none 0 0, .slice none 0 0, .bool false, .int .i64 0] := p3.blk
      have i14 := g3.id
      have z3 := g3.size
      have c3 := c1.nil g3.chg
      have hv3 := hv.ext c3
      obtain ⟨b, o, rfl⟩ := hv3.addr (by omega)
      have hcs := hv3.cells encX_len (i := i) (x := l[i]) (by simp [hlt])
      refine And.intro (by omega) (And.intro (by omega) (Exists.intro l[i].vs (And.intro l[i].len (And.intro (cells_vs hcs) ?_))))
      refine Exists.intro _ (And.intro B14 (And.intro (by simp [l[i].len]) (And.intro l[i].len (And.intro l[i].one ?_))))
      intro h4 p4
      have C14 : Blk h4 b14 l[i].vs := by
        have h8 : Blk h4 b14 (splice _ 0 l[i].vs) := p4.blk
        rw [seven rfl l[i].len] at h8
        exact h8
      have c4 : Chg [] h h4 := c3.fresh p4.chg (by simp; omega)
      have ti := rg.tin _ hmem
      refine cut_at [(0, .slice (some ⟨b, o, none⟩) l.length cc), (3, ptr b3), (6, .int .i64 e.op), (12, .bool true), (14, ptr b14)] ⟨rfl, rfl, rfl, rfl, rfl, trivial⟩
        (one_kind hv g rg c4 ((B3.chg g3.chg (by simp)).chg p4.chg (by simp; omega)) C14 (by omega) (by omega) (fun h' c => (g.ext c) _ hmem) hkr (fun h => fate_kind hr ha hlg hfy h) (fun h => ?_) hfo.symm (by omega) (by omega) (by omega) ti.good.few (rg.nm _ hmem) (fun h ho => ?_))
      · rw [fate_old hr ha hlg hfy h, hslen]
      · obtain ⟨k3, _⟩ := kind_three hr ho
        exact ti.some (by rw [← k3]; exact Decidable.not_not.1 (fun hne => h ⟨by rw [k3]; decide, hne⟩))
  refine And.intro rfl (And.intro (fun h2 => ?_) (fun n2 => ?_))
  · exact cut_at [(0, .slice a l.length cc), (3, ptr b3), (6, .int .i64 e.op), (11, .int .i64 i), (12, .bool fo), (13, .bool true)] ⟨rfl, rfl, rfl, rfl, rfl, rfl, trivial⟩ (rest true (makes_yes hr (.inl h2)).symm)
  refine And.intro rfl (And.intro (fun h5 => ?_) (fun n5 => ?_))
  · exact cut_at [(0, .slice a l.length cc), (3, ptr b3), (6, .int .i64 e.op), (11, .int .i64 i), (12, .bool fo), (13, .bool true)] ⟨rfl, rfl, rfl, rfl, rfl, rfl, trivial⟩ (rest true (makes_yes hr (.inr (.inl h5))).symm)
  refine And.intro rfl (And.intro (fun h7 => ?_) (fun n7 => ?_))
  · exact cut_at [(0, .slice a l.length cc), (3, ptr b3), (6, .int .i64 e.op), (11, .int .i64 i), (12, .bool fo), (13, .bool true)] ⟨rfl, rfl, rfl, rfl, rfl, rfl, trivial⟩ (rest true (makes_yes hr (.inr (.inr (.inl h7)))).symm)
  refine And.intro rfl (And.intro (fun h8 => ?_) (fun n8 => ?_))
  · exact cut_at [(0, .slice a l.length cc), (3, ptr b3), (6, .int .i64 e.op), (11, .int .i64 i), (12, .bool fo), (13, .bool true)] ⟨rfl, rfl, rfl, rfl, rfl, rfl, trivial⟩ (rest true (makes_yes hr (.inr (.inr (.inr (.inl h8))))).symm)
  refine And.intro rfl (And.intro (fun h12 => ?_) (fun n12 => ?_))
  · exact cut_at [(0, .slice a l.length cc), (3, ptr b3), (6, .int .i64 e.op), (11, .int .i64 i), (12, .bool fo), (13, .bool true)] ⟨rfl, rfl, rfl, rfl, rfl, rfl, trivial⟩ (rest true (makes_yes hr (.inr (.inr (.inr (.inr (.inl h12)))))).symm)
  refine And.intro rfl (And.intro (fun h14 => ?_) (fun n14 => ?_))
  · exact cut_at [(0, .slice a l.length cc), (3, ptr b3), (6, .int .i64 e.op), (11, .int .i64 i), (12, .bool fo), (13, .bool true)] ⟨rfl, rfl, rfl, rfl, rfl, rfl, trivial⟩ (rest true (makes_yes hr (.inr (.inr (.inr (.inr (.inr h14)))))).symm)
  exact cut_at [(0, .slice a l.length cc), (3, ptr b3), (6, .int .i64 e.op), (11, .int .i64 i), (12, .bool fo), (13, .bool false)] ⟨rfl, rfl, rfl, rfl, rfl, rfl, trivial⟩ (rest false (makes_no hr n2 n5 n7 n8 n12 n14).symm)

theorem ROne_calls {h : Heap} {v : Value} {l : List RX} {e : Eff} (hv : SL encX h v l) (g : GX h l) (rg : RG l) :
    CallsH Tryz.prog 16 [v, .agg ⟨encD e⟩] h (Ret (OneR h l e)) := by
  refine f16_calls (by simp) ?_
  intro b3 h1 g1
  have B3 : Blk h1 b3 (encD e) := g1.blk
  have c1 := g1.chg
  refine Exists.intro _ (And.intro (cell_blk B3 rfl) ?_)
  refine call_ret (uses_calls e.op) ?_
  rintro r0 h9 ⟨hr0, e9⟩
  have e9 := e9.symm
  subst e9
  cases hr : ruleR e.op with
  | none =>
    have : usesV e.op = .tuple #[.bool false, .bool false, .bool false, .bool false] := by unfold usesV; rw [hr]
    rw [this] at hr0
    subst hr0
    exact oneR_no (fate_op hr) hv g rg c1
  | some r =>
    have : usesV e.op = .tuple #[.bool r.name, .bool r.text, .bool r.number, .bool true] := by unfold usesV; rw [hr]
    rw [this] at hr0
    subst hr0
    have long : ¬ argBad r e → swp Tryz.prog (.seq (.seq (.ops f16r5) (.cond (.tmp 70) (.seq (.ops f16r6) .ret) .skip)) (.seq (.ops f16r7) (.seq (.ops f16r8) (.seq (.seq (.ops f16r9) (.cond (.tmp 106) (.seq (.ops f16r10) .ret) .skip)) (.seq (.ops f16r11) (.seq (.seq (.ops f16r12) (.cond (.tmp 111) (.ops f16r13) .skip)) (.seq (.seq (.ops f16r14) (.cond (.tmp 126) (.seq (.ops f16r15) .ret) .skip)) (.seq (.ops f16r16) (.seq (.seq (.ops f16r17) (.cond (.tmp 135) (.seq (.ops f16r18) .ret) .skip)) (.seq (.seq (.ops f16r19) (.cond (.tmp 145) (.seq (.ops f16r20) .ret) .skip)) (.seq (.seq (.ops f16r21) (.cond (.tmp 161) (.seq (.ops f16r22) .ret) .skip)) (.seq (.ops f16r23) .ret)))))))))))) (retQ [.t 4, .t 5] (Ret (OneR h l e))) (mk [(0, v), (3, ptr b3), (6, .int .i64 e.op)]) [] h1 := by
      intro ha
      refine Exists.intro _ (And.intro (cell_blk B3 rfl) ?_)
      refine And.intro rfl (And.intro (fun w0 => ?_) (fun w0 => ?_))
      · exact oneR_no (fate_long hr ha (.inl (by omega))) hv g rg c1
      refine Exists.intro _ (And.intro (cell_blk B3 rfl) ?_)
      refine And.intro rfl (And.intro (fun w1 => ?_) (fun w1 => ?_))
      · exact oneR_no (fate_long hr ha (.inr (.inl (by omega)))) hv g rg c1
      refine Exists.intro _ (And.intro (cell_blk B3 rfl) ?_)
      refine And.intro rfl (And.intro (fun w2 => ?_) (fun w2 => ?_))
      · exact oneR_no (fate_long hr ha (.inr (.inr (by omega)))) hv g rg c1
      exact cut_at [(0, v), (3, ptr b3), (6, .int .i64 e.op)] ⟨rfl, rfl, rfl, trivial⟩ (one_find hv g rg g1 hr ha (by unfold longBad; omega))
    obtain ⟨nm, hnm⟩ : ∃ x, x = r.name := ⟨_, rfl⟩
    obtain ⟨tx, htx⟩ : ∃ x, x = r.text := ⟨_, rfl⟩
    obtain ⟨nu, hnu⟩ : ∃ x, x = r.number := ⟨_, rfl⟩
    rw [← hnm, ← htx, ← hnu]
    cases h0 : nm with
    | true =>
      subst h0
      cases h1 : tx with
      | true =>
        subst h1
        cases h2 : nu with
        | true =>
          subst h2
          refine swp_seq ?_
          exact cut_at [(0, v), (3, ptr b3), (6, .int .i64 e.op)] ⟨rfl, rfl, rfl, trivial⟩ (long (fun h => h.elim (fun h => Bool.noConfusion (hnm.trans h.1)) (fun h => h.elim (fun h => Bool.noConfusion (htx.trans h.1)) (fun h => Bool.noConfusion (hnu.trans h.1)))))
        | false =>
          subst h2
          refine Exists.intro _ (And.intro (cell_blk B3 rfl) ?_)
          refine And.intro rfl (And.intro (fun hne => ?_) (fun heq => ?_))
          · exact oneR_no (fate_arg hr (.inr (.inr ⟨hnu.symm, hne⟩))) hv g rg c1
          · have heq2 := heq
            exact cut_at [(0, v), (3, ptr b3), (6, .int .i64 e.op)] ⟨rfl, rfl, rfl, trivial⟩ (long (fun h => h.elim (fun h => Bool.noConfusion (hnm.trans h.1)) (fun h => h.elim (fun h => Bool.noConfusion (htx.trans h.1)) (fun h => heq2 h.2))))
      | false =>
        subst h1
        refine Exists.intro _ (And.intro (cell_blk B3 rfl) ?_)
        refine And.intro (fun hne => ?_) (fun heq => ?_)
        · exact oneR_no (fate_arg hr (.inr (.inl ⟨htx.symm, hne⟩))) hv g rg c1
        · have heq1 := heq
          cases h2 : nu with
          | true =>
            subst h2
            exact cut_at [(0, v), (3, ptr b3), (6, .int .i64 e.op)] ⟨rfl, rfl, rfl, trivial⟩ (long (fun h => h.elim (fun h => Bool.noConfusion (hnm.trans h.1)) (fun h => h.elim (fun h => heq1 h.2) (fun h => Bool.noConfusion (hnu.trans h.1)))))
          | false =>
            subst h2
            refine Exists.intro _ (And.intro (cell_blk B3 rfl) ?_)
            refine And.intro rfl (And.intro (fun hne => ?_) (fun heq => ?_))
            · exact oneR_no (fate_arg hr (.inr (.inr ⟨hnu.symm, hne⟩))) hv g rg c1
            · have heq2 := heq
              exact cut_at [(0, v), (3, ptr b3), (6, .int .i64 e.op)] ⟨rfl, rfl, rfl, trivial⟩ (long (fun h => h.elim (fun h => Bool.noConfusion (hnm.trans h.1)) (fun h => h.elim (fun h => heq1 h.2) (fun h => heq2 h.2))))
    | false =>
      subst h0
      refine Exists.intro _ (And.intro (cell_blk B3 rfl) ?_)
      refine And.intro (fun hne => ?_) (fun heq => ?_)
      · exact oneR_no (fate_arg hr (.inl ⟨hnm.symm, hne⟩)) hv g rg c1
      · have heq0 := heq
        cases h1 : tx with
        | true =>
          subst h1
          cases h2 : nu with
          | true =>
            subst h2
            exact cut_at [(0, v), (3, ptr b3), (6, .int .i64 e.op)] ⟨rfl, rfl, rfl, trivial⟩ (long (fun h => h.elim (fun h => heq0 h.2) (fun h => h.elim (fun h => Bool.noConfusion (htx.trans h.1)) (fun h => Bool.noConfusion (hnu.trans h.1)))))
          | false =>
            subst h2
            refine Exists.intro _ (And.intro (cell_blk B3 rfl) ?_)
            refine And.intro rfl (And.intro (fun hne => ?_) (fun heq => ?_))
            · exact oneR_no (fate_arg hr (.inr (.inr ⟨hnu.symm, hne⟩))) hv g rg c1
            · have heq2 := heq
              exact cut_at [(0, v), (3, ptr b3), (6, .int .i64 e.op)] ⟨rfl, rfl, rfl, trivial⟩ (long (fun h => h.elim (fun h => heq0 h.2) (fun h => h.elim (fun h => Bool.noConfusion (htx.trans h.1)) (fun h => heq2 h.2))))
        | false =>
          subst h1
          refine Exists.intro _ (And.intro (cell_blk B3 rfl) ?_)
          refine And.intro (fun hne => ?_) (fun heq => ?_)
          · exact oneR_no (fate_arg hr (.inr (.inl ⟨htx.symm, hne⟩))) hv g rg c1
          · have heq1 := heq
            cases h2 : nu with
            | true =>
              subst h2
              exact cut_at [(0, v), (3, ptr b3), (6, .int .i64 e.op)] ⟨rfl, rfl, rfl, trivial⟩ (long (fun h => h.elim (fun h => heq0 h.2) (fun h => h.elim (fun h => heq1 h.2) (fun h => Bool.noConfusion (hnu.trans h.1)))))
            | false =>
              subst h2
              refine Exists.intro _ (And.intro (cell_blk B3 rfl) ?_)
              refine And.intro rfl (And.intro (fun hne => ?_) (fun heq => ?_))
              · exact oneR_no (fate_arg hr (.inr (.inr ⟨hnu.symm, hne⟩))) hv g rg c1
              · have heq2 := heq
                exact cut_at [(0, v), (3, ptr b3), (6, .int .i64 e.op)] ⟨rfl, rfl, rfl, trivial⟩ (long (fun h => h.elim (fun h => heq0 h.2) (fun h => h.elim (fun h => heq1 h.2) (fun h => heq2 h.2))))
end Go.Proofs.YtaffnlibmkcgiaaGreat
namespace Go.Proofs.YtaffnlibmkcgiaaGreat
open Go Go.Sx Go.Proofs.YtaffnlibmkcgiaaGreat.C

def ApplyR (h : Heap) (l : List RX) (d : List Eff) (r : Value) (h' : Heap) : Prop :=
  (∃ v' l', r = .tuple #[v', .int .i64 (applyS (l.map RX.pr) d).2.1, .int .i64 (applyS (l.map RX.pr) d).2.2] ∧ SL encX h' v' l' ∧ GX h' l' ∧ RG l' ∧ l'.map RX.pr = (applyS (l.map RX.pr) d).1) ∧ Chg [] h h'

theorem applyR_fin {h h' : Heap} {l l' : List RX} {d : List Eff} {v' : Value} {k : Nat} {n : Int} (hap : applyS (l.map RX.pr) d = (l'.map RX.pr, k, n)) (hv : SL encX h' v' l') (g : GX h' l') (rg : RG l') (c : Chg [] h h') :
    Ret (ApplyR h l d) (.returned (retV [v', .int .i64 k, .int .i64 n])) h' :=
  ⟨⟨v', l', by rw [hap]; rfl, hv, g, rg, by rw [hap]⟩, c⟩

theorem RApply_calls {h : Heap} {v u : Value} {l : List RX} {d : List Eff} (hv : SL encX h v l) (g : GX h l) (rg : RG l) (hu : SL encD h u d) (hd : d.length < 4611686018427387904) :
    CallsH Tryz.prog 13 [v, u] h (Ret (ApplyR h l d)) := by
  obtain ⟨a, cc, rfl, hlc⟩ := hu.form
  refine f13_calls (by simp) ?_
  refine loop_intro (fun i : Nat × Value => [(0, i.2), (1, .slice a d.length cc), (7, .int .i64 i.1)])
    (fun i h' => i.1 ≤ d.length ∧ Chg [] h h' ∧ ∃ l', SL encX h' i.2 l' ∧ GX h' l' ∧ RG l' ∧ applyS (l.map RX.pr) d = ((applyS (l'.map RX.pr) (d.drop i.1)).1, (applyS (l'.map RX.pr) (d.drop i.1)).2.1 + i.1, (applyS (l'.map RX.pr) (d.drop i.1)).2.2)) (fun i => d.length - i.1) (0, v)
    ⟨rfl, rfl, rfl, trivial⟩ ⟨Nat.zero_le _, Chg.refl h, l, hv, g, rg, rfl⟩ ?_
  rintro ⟨k, w⟩ h1 ⟨hk, c1, l', hw, gw, rw_, hap⟩
  simp only at hk hw hap
  refine And.intro rfl (And.intro (fun hlt => ?_) (fun hlt => ?_))
  · have hlt : k < d.length := by omega
    have hu1 := hu.ext c1
    obtain ⟨b, o, rfl⟩ := hu1.addr (by omega)
    have hcs := hu1.cells encD_len (i := k) (x := d[k]) (by simp [hlt])
    rw [List.drop_eq_getElem_cons hlt] at hap
    refine And.intro (by omega) (And.intro (by omega) (Exists.intro (encD d[k]) (And.intro rfl (And.intro hcs ?_))))
    refine call_ret (ROne_calls hw gw rw_) ?_
    rintro _ h2 ⟨⟨w', l2, rfl, hw2, gw2, rw2, hpr⟩, c2⟩
    have c02 := c1.nil c2
    refine And.intro rfl (And.intro (fun hne => ?_) (fun hne => ?_))
    · rw [applyS_no hne] at hap
      refine applyR_fin (l' := l') (k := k) ?_ (hw.ext c2) (gw.ext c2) rw_ c02
      rw [hap]; simp
    · have hz := Decidable.not_not.1 hne
      rw [applyS_yes hz, ← hpr] at hap
      refine And.intro rfl (fun z hz' => ?_)
      have hz' := add_in hz' (by omega) (by omega)
      subst hz'
      refine And.intro rfl (Exists.intro (k + 1, w') (And.intro ?_ (And.intro ?_ ?_)))
      · exact ⟨rfl, rfl, rfl, trivial⟩
      · exact ⟨by simp only; omega, c02, l2, hw2, gw2, rw2, by rw [hap]; simp only [Nat.add_assoc, Nat.add_comm 1 k]⟩
      · simp only; omega
  · have hkl : k = d.length := by omega
    subst hkl
    rw [List.drop_length, applyS] at hap
    refine applyR_fin (l' := l') (k := d.length) ?_ hw gw rw_ c1
    rw [hap]; simp

end Go.Proofs.YtaffnlibmkcgiaaGreat
namespace Go.Proofs.YtaffnlibmkcgiaaGreat
open Go Go.Sx Go.Proofs.YtaffnlibmkcgiaaGreat.C

theorem tin_of {t : Thing} (hk : kOK t = true) (s : Small t) : TIn t := by
  have few : countT t ≤ 65536 := (small_short s).2.2.2
  unfold kOK at hk
  split at hk
  · cases hk
  split at hk
  · rename_i h1
    have hk := of_decide_eq_true hk
    have p : t.pairs = [] := List.length_eq_zero_iff.1 (by omega)
    have l : t.list = [] := List.length_eq_zero_iff.1 (by omega)
    have r : t.ranks = [] := List.length_eq_zero_iff.1 (by omega)
    exact ⟨⟨by rw [p]; exact .nil, fun _ => by rw [l]; exact .nil, by rw [r]; exact .nil, by rw [r]; exact List.nodup_nil, fun h => by omega, few⟩, fun h => by omega⟩
  split at hk
  · rename_i h1
    simp only [Bool.and_eq_true, decide_eq_true_eq] at hk
    obtain ⟨h2, h3, h4, h5⟩ := hk
    have r : t.ranks = [] := List.length_eq_zero_iff.1 (by omega)
    exact ⟨⟨rising_lt (lt := fun x y : Pair => sless x.name y.name) (fun a b c => sless_trans) h5, fun h => by omega, by rw [r]; exact .nil, by rw [r]; exact List.nodup_nil, fun h => by omega, few⟩, fun h => by omega⟩
  split at hk
  · rename_i h1
    simp only [Bool.and_eq_true, decide_eq_true_eq] at hk
    obtain ⟨h2, h3, h4⟩ := hk
    have p : t.pairs = [] := List.length_eq_zero_iff.1 (by omega)
    have r : t.ranks = [] := List.length_eq_zero_iff.1 (by omega)
    exact ⟨⟨by rw [p]; exact .nil, fun h => by omega, by rw [r]; exact .nil, by rw [r]; exact List.nodup_nil, fun _ => ⟨p, r⟩, few⟩, fun _ => List.length_pos_iff.1 h2⟩
  split at hk
  · rename_i h1
    simp only [Bool.and_eq_true, decide_eq_true_eq] at hk
    obtain ⟨h2, h3, h4, h5⟩ := hk
    have p : t.pairs = [] := List.length_eq_zero_iff.1 (by omega)
    have r : t.ranks = [] := List.length_eq_zero_iff.1 (by omega)
    exact ⟨⟨by rw [p]; exact .nil, fun _ => rising_lt (lt := sless) (fun a b c => sless_trans) h5, by rw [r]; exact .nil, by rw [r]; exact List.nodup_nil, fun h => by omega, few⟩, fun h => by omega⟩
  split at hk
  · rename_i h1
    simp only [Bool.and_eq_true, decide_eq_true_eq] at hk
    obtain ⟨h2, h3, h4, h5, h6⟩ := hk
    have p : t.pairs = [] := List.length_eq_zero_iff.1 (by omega)
    exact ⟨⟨by rw [p]; exact .nil, fun h => by omega, rising_lt ahead_tr h5, of_decide_eq_true h6, fun h => by omega, few⟩, fun h => by omega⟩
  · cases hk

theorem named_of {t : Thing} (s : Small t) : Named t := ⟨fun x hx => by have := s.ps x hx; omega, fun x hx => by have := s.ls x hx; omega, fun x hx => by have := s.rs x hx; omega⟩

theorem rg_of {l k : List RX} (nv : NVast l) (hk : ofX [] l = some k) : RG k := by
  obtain ⟨h1, h2, h3⟩ := ofX_ok List.Pairwise.nil hk
  have hn := (ofX_nodup List.Pairwise.nil hk).2
  have hm : ∀ x ∈ k, x ∈ l := fun x hx => by simpa using (h2 x).1 hx
  have hl := nv.len
  have hlk : k.length = l.length := by simpa using h3
  exact ⟨h1, by omega, fun x hx => nv.fit x (hm x hx), fun x hx => tin_of (hn x (hm x hx)) (nv.small x (hm x hx)), fun x hx => named_of (nv.small x (hm x hx))⟩

theorem gx_of {h : Heap} {l k : List RX} (g : GX h l) (hk : ofX [] l = some k) : GX h k := by
  obtain ⟨_, h2, _⟩ := ofX_ok List.Pairwise.nil hk
  exact fun x hx => g x (by simpa using (h2 x).1 hx)

theorem sorted_in {m : List KI} {l k : List RX} (nv : NVast l) (hpr : m.map KI.pr = l.map RX.pr) (hk : ofX [] l = some k) : Sorted m (k.map RX.pr) ∧ InS (k.map RX.pr) := ⟨sorted_of hpr hk, (rg_of nv hk).ins⟩

theorem kr_lt {h : Heap} {kb sb mb c : Nat} {m : List KI} (kr : KR h kb sb mb c m) : mb < h.size := get_lt kr.map

theorem KeysApply_calls {h : Heap} {v u : Value} {l : List RX} {d : List Eff} (hv : SL encX h v l) (hu : SL encD h u d) (g : GX h l) (f : XFit l) (fd : DFit d) :
    CallsH Tryz.prog 3 [v, u] h (Ret fun r h' => r = .bool true ∧ Chg [] h h') := by
  have hdl := fd.len
  refine f3_calls (by simp) ?_
  refine call_ret (vast_calls hv hu g f fd) ?_
  rintro _ h1 ⟨⟨b, rfl, hb⟩, c1⟩
  cases b with
  | true =>
    refine call_ret known_calls ?_
    rintro _ h2 ⟨rfl, c2⟩
    exact And.intro rfl (c1.nil c2)
  | false =>
    obtain ⟨nv, _⟩ := hb rfl
    refine call_ret (KOf_calls (hv.ext c1) (g.ext c1) nv) ?_
    rintro r2 h2 ⟨c2, ho⟩
    have c02 := c1.nil c2
    cases hk : ofX [] l with
    | none =>
      rw [hk] at ho
      subst ho
      refine call_ret (ROf_calls (hv.ext c02) (g.ext c02) nv) ?_
      rintro r3 h3 ⟨c3, hr⟩
      have c03 := c02.nil c3
      rw [hk] at hr
      subst hr
      refine And.intro rfl (And.intro (fun _ => ?_) (fun hne => absurd (by decide) hne))
      refine And.intro rfl (And.intro (fun _ => ?_) (fun hne => absurd rfl hne))
      refine call_ret known_calls ?_
      rintro _ h4 ⟨rfl, c4⟩
      exact And.intro rfl (c03.nil c4)
    | some k =>
      rw [hk] at ho
      obtain ⟨kb, sb, mb, c, m, rfl, kr, hpr, hmb⟩ := ho
      refine call_ret (ROf_calls (hv.ext c02) (g.ext c02) nv) ?_
      rintro r3 h3 ⟨c3, hr⟩
      have c03 := c02.nil c3
      rw [hk] at hr
      obtain ⟨w, rfl, hw, hwb⟩ := hr
      obtain ⟨hW, hI⟩ := sorted_in nv hpr hk
      have rg := rg_of nv hk
      have hlt := kr_lt kr
      have z1 := c1.size
      refine And.intro rfl (And.intro (fun hne => absurd rfl hne) (fun _ => ?_))
      refine And.intro rfl (And.intro (fun hne => absurd rfl hne) (fun _ => ?_))
      refine call_ret (ApplyG_calls (kr.ext c3) hW hI (fun h' c' => (hu.ext c1).ext ((c2.nil c3).fresh c' (by simp; omega))) hdl) ?_
      rintro _ h4 ⟨rfl, c', m', kr4, hW4, hI4, c4⟩
      have c04 : Chg [] h h4 := c03.fresh c4 (by simp; omega)
      have hw4 := hw.chg c4 (fun b hb => by have := hwb b hb; simp; omega)
      refine call_ret (RApply_calls hw4.sl (gx_of (g.ext c04) hk) rg (hu.ext c04) hdl) ?_
      rintro _ h5 ⟨⟨w5, l5, rfl, hw5, g5, rg5, hpr5⟩, c5⟩
      have c05 := c04.nil c5
      rw [← hpr5] at hW4
      refine And.intro rfl (And.intro (fun _ => ?_) (fun hne => absurd rfl hne))
      refine And.intro rfl (And.intro (fun _ => ?_) (fun hne => absurd rfl hne))
      refine call_ret (same_calls (kr4.ext c5) hw5 g5 hW4 rg5.len) ?_
      rintro _ h6 ⟨rfl, c6⟩
      refine call_ret known_calls ?_
      rintro _ h7 ⟨rfl, c7⟩
      exact And.intro rfl ((c05.nil c6).nil c7)

end Go.Proofs.YtaffnlibmkcgiaaGreat
namespace Go.Proofs.YtaffnlibmkcgiaaGreat
open Go Go.Sx Go.Proofs.YtaffnlibmkcgiaaGreat.C

def getS (S : Space) (key : ByteArray) (now : Int) : Option Thing := match findS S key with
  | some t => if goneT t now = true then none else some t
  | none => none

theorem look_find {l : List RX} (hu : UpX l) (key : ByteArray) : lookX l key = findS (l.map RX.pr) key := by
  unfold lookX
  cases hb : (findX key l).2 with
  | true =>
    obtain ⟨hlt, hk⟩ := findX_hit key l hb
    rw [if_pos rfl, find_yes hu hlt hk, List.getElem?_eq_getElem hlt]
    rfl
  | false => rw [if_neg (by simp), find_no hu hb]

theorem get_get {l : List RX} (hu : UpX l) (key : ByteArray) (now : Int) : getX l key now = getS (l.map RX.pr) key now := by
  unfold getX getS
  rw [look_find hu]
  rfl

theorem find_mem {m : List KI} {S : Space} (hs : Sorted m S) {i : KI} (hi : i ∈ m) : findS S i.key = some i.thing :=
  findS_some hs.up ((hs.mem _).2 (mem_pr.2 ⟨i, hi, rfl, rfl⟩))

theorem find_out {m : List KI} {S : Space} (hs : Sorted m S) {key : ByteArray} (hno : ∀ i ∈ m, i.key ≠ key) : findS S key = none := by
  cases hf : findS S key with
  | none => rfl
  | some t =>
    obtain ⟨i, hi, h1, h2⟩ := mem_pr.1 ((hs.mem _).1 (findS_mem hf))
    exact absurd h1 (hno i hi)

theorem KGet_calls {h : Heap} {kb sb mb c : Nat} {m : List KI} {S : Space} (key : ByteArray) (now : Int) (x : KR h kb sb mb c m) (hs : Sorted m S) :
    CallsH Tryz.prog 22 [ptr kb, .string key, .int .i64 now] h (Ret fun r h' => (∃ us, r = .tuple #[.agg ⟨us⟩, .bool (getS S key now).isSome] ∧ TH h' us ((getS S key now).getD zeroT)) ∧ Chg [] h h') := by
  obtain ⟨go, hgo⟩ : ∃ go, go = getS S key now := ⟨_, rfl⟩
  rw [← hgo]
  refine f22_calls (by simp) ?_
  intro b6 h1 g1
  have c1 := g1.chg
  have i6 := g1.id
  have z1 := g1.size
  have B6 : Blk h1 b6 zeroV := g1.blk
  refine call_ret (LookK_calls key (x.ext c1)) ?_
  rintro _ h2 ⟨hlook, c2⟩
  have z2 := c2.size
  rcases hlook with ⟨i, hi, hik, pv, lv, rv, rfl, o2, fr⟩ | ⟨hno, rfl⟩
  · have hfs : findS S key = some i.thing := by rw [← hik]; exact find_mem hs hi
    intro b8 h3 g3
    refine Exists.intro zeroV (And.intro g3.blk (And.intro (by decide) (And.intro rfl (And.intro (thing_one o2.th) ?_))))
    intro h4 p4
    have g4 := g3.put p4
    have B8 : Blk h4 b8 (cellsT i.thing pv lv rv) := p4.blk
    have o4 := o2.ext g4.chg
    have c14 : Chg [] h1 h4 := c2.nil g4.chg
    refine Exists.intro _ (And.intro rfl (And.intro (cells_blk B8) ?_))
    refine call_ret (gone_calls o4.th now) ?_
    rintro _ h5 ⟨rfl, c5⟩
    have c15 := c14.nil c5
    have o5 := o4.ext c5
    have B65 := B6.chg c15 (by simp)
    have B85 := B8.chg c5 (by simp)
    cases hg : (i.thing.hasU && decide (i.thing.unt ≤ now)) with
    | true =>
      have e : go = none := by rw [hgo]; unfold getS; rw [hfs]; simp only; rw [if_pos (show goneT i.thing now = true from hg)]
      subst e
      refine Exists.intro zeroV (And.intro B65 (And.intro (by decide) (And.intro rfl (And.intro (thing_one (zero_TH (h := h5))) ?_))))
      intro h6 p6
      have B66 : Blk h6 b6 zeroV := p6.blk
      refine Exists.intro zeroV (And.intro rfl (And.intro (cells_blk B66) ?_))
      exact And.intro (Exists.intro zeroV (And.intro rfl zero_TH)) ((c1.nil c15).fresh p6.chg (by simp; omega))
    | false =>
      have e : go = some i.thing := by rw [hgo]; unfold getS; rw [hfs]; simp only; rw [if_neg (by unfold goneT; rw [hg]; simp)]
      subst e
      refine Exists.intro _ (And.intro rfl (And.intro (cells_blk B85) ?_))
      refine Exists.intro zeroV (And.intro B65 (And.intro (by decide) (And.intro rfl (And.intro (thing_one o5.th) ?_))))
      intro h6 p6
      have B66 : Blk h6 b6 (cellsT i.thing pv lv rv) := p6.blk
      have o6 := o5.chg p6.chg (fun b hb => by have := fr b hb; simp; omega)
      refine Exists.intro _ (And.intro rfl (And.intro (cells_blk B66) ?_))
      exact And.intro (Exists.intro _ (And.intro rfl o6.th)) ((c1.nil c15).fresh p6.chg (by simp; omega))
  · have e : go = none := by rw [hgo]; unfold getS; rw [find_out hs hno]
    subst e
    intro b8 h3 g3
    refine Exists.intro zeroV (And.intro g3.blk (And.intro (by decide) (And.intro rfl (And.intro (thing_one (zero_TH (h := h3))) ?_))))
    intro h4 p4
    have g4 := g3.put p4
    have c14 : Chg [] h1 h4 := c2.nil g4.chg
    have B64 := B6.chg c14 (by simp)
    refine Exists.intro zeroV (And.intro B64 (And.intro (by decide) (And.intro rfl (And.intro (thing_one (zero_TH (h := h4))) ?_))))
    intro h6 p6
    have B66 : Blk h6 b6 zeroV := p6.blk
    refine Exists.intro zeroV (And.intro rfl (And.intro (cells_blk B66) ?_))
    exact And.intro (Exists.intro zeroV (And.intro rfl zero_TH)) ((c1.nil c14).fresh p6.chg (by simp; omega))

/-- The keys of what is not gone. -/
def liveS (now : Int) (S : Space) : List ByteArray := (S.filter fun p => !goneT p.2 now).map Prod.fst

theorem liveS_snoc {now : Int} {S : Space} {p : ByteArray × Thing} : liveS now (S ++ [p]) = liveS now S ++ (if goneT p.2 now = true then [] else [p.1]) := by
  unfold liveS
  rw [List.filter_append, List.map_append]
  cases hg : goneT p.2 now <;> simp [hg]

theorem liveS_len {now : Int} {S : Space} : (liveS now S).length ≤ S.length := by
  unfold liveS
  rw [List.length_map]
  exact List.length_filter_le _ _

theorem RNames_calls {h : Heap} {v : Value} {l : List RX} (now : Int) (hv : SL encX h v l) (g : GX h l) (rg : RG l) :
    CallsH Tryz.prog 24 [v, .int .i64 now] h (Ret fun r h' => OL encS 1 h' r (liveS now (l.map RX.pr)) ∧ (∀ b ∈ vblk r, h.size ≤ b) ∧ Chg [] h h') := by
  obtain ⟨a, c, rfl, hlc⟩ := hv.form
  have hl := rg.len
  obtain ⟨S, hS⟩ : ∃ S, S = l.map RX.pr := ⟨_, rfl⟩
  rw [← hS]
  have hSl : S.length = l.length := by rw [hS]; simp
  refine f24_calls (by simp) ?_
  refine loop_intro (fun i : Nat × Option Addr × Nat × List ByteArray => [(0, .slice a l.length c), (1, .int .i64 now), (5, .slice i.2.1 i.2.2.2.length i.2.2.1), (6, .int .i64 i.1)])
    (fun i h' => i.1 ≤ l.length ∧ Chg [] h h' ∧ OL encS 1 h' (.slice i.2.1 i.2.2.2.length i.2.2.1) i.2.2.2 ∧ (∀ b ∈ ablk i.2.1, h.size ≤ b) ∧ i.2.2.2 = liveS now (S.take i.1)) (fun i => l.length - i.1) (0, none, 0, [])
    ⟨rfl, rfl, rfl, rfl, trivial⟩ ⟨Nat.zero_le _, Chg.refl h, OL.nil, by simp [ablk], by simp [liveS]⟩ ?_
  rintro ⟨k, a2, c2, acc⟩ h1 ⟨hk, c1, ho, hfr, hacc⟩
  simp only at hk ho hfr hacc
  have hal : acc.length ≤ k := by
    have := liveS_len (now := now) (S := S.take k)
    rw [← hacc, List.length_take] at this
    omega
  have hv1 := hv.ext c1
  refine And.intro rfl (And.intro (fun ht => ?_) (fun ht => ?_))
  · have hlt : k < l.length := by omega
    obtain ⟨b, o, rfl⟩ := hv1.addr (by omega)
    have hcs := hv1.cells encX_len (i := k) (x := l[k]) (by simp [hlt])
    have hmem : l[k] ∈ l := List.getElem_mem hlt
    refine And.intro (by omega) (And.intro (by omega) (Exists.intro _ (And.intro (hcs 0 _ rfl) ?_)))
    have hget : getX l l[k].key now = if goneT l[k].thing now = true then none else some l[k].thing := by
      rw [get_get rg.up]; unfold getS; rw [find_yes rg.up hlt rfl]
    have hsome : (getX l l[k].key now).isSome = !goneT l[k].thing now := by rw [hget]; cases goneT l[k].thing now <;> rfl
    refine call_ret (RGet_calls l[k].key now hv1 (g.ext c1) (by omega) (rg.fit _ hmem) rg.fit) ?_
    rintro r2 h2 ⟨⟨us, hr2, tu⟩, d2⟩
    rw [hsome] at hr2
    subst hr2
    intro b7 h3 g3
    refine Exists.intro _ (And.intro g3.blk (And.intro (by decide) (And.intro tu.len (And.intro (thing_one tu) ?_))))
    intro h4 p4
    have g4 := g3.put p4
    have c14 : Chg [] h1 h4 := d2.nil g4.chg
    have c04 := c1.nil c14
    have htk : S.take (k + 1) = S.take k ++ [(l[k].key, l[k].thing)] := by
      rw [take_snoc S k (by omega)]
      congr 2
      subst hS
      exact getPr _ hlt
    cases hg : goneT l[k].thing now with
    | true =>
      refine And.intro rfl (fun z hz => ?_)
      have hz := add_in hz (by omega) (by omega)
      subst hz
      refine And.intro rfl (Exists.intro (k + 1, a2, c2, acc) (And.intro ?_ (And.intro ?_ ?_)))
      · exact ⟨rfl, rfl, rfl, rfl, trivial⟩
      · exact ⟨by simp only; omega, c04, ho.ext c14, hfr, by simp only; rw [htk, liveS_snoc, if_pos hg, List.append_nil]; exact hacc⟩
      · simp only; omega
    | false =>
      have hcs4 := (hv1.ext c14).cells encX_len (i := k) (x := l[k]) (by simp [hlt])
      refine And.intro (by omega) (And.intro (by omega) (Exists.intro _ (And.intro (hcs4 0 _ rfl) ?_)))
      intro b5 h5 g5
      have one : SL encS h5 (.slice (some ⟨b5, 0, none⟩) 1 1) [l[k].key] := SL.one encS_len g5.blk
      have c05 := c04.nil g5.chg
      refine app_own encS_len encS_one rfl ((ho.ext c14).ext g5.chg) one (by simp; omega) ?_
      intro v6 h6 ho6 hc6 hb6
      obtain ⟨a6, c6, rfl, _⟩ := ho6.sl.form
      have hfr6 : ∀ b ∈ ablk a6, h.size ≤ b := fun b hb => by
        rcases hb6 b hb with h' | h'
        · exact hfr b h'
        · have := c05.size; omega
      refine And.intro rfl (fun z hz => ?_)
      have hz := add_in hz (by omega) (by omega)
      subst hz
      refine And.intro rfl (Exists.intro (k + 1, a6, c6, acc ++ [l[k].key]) (And.intro ?_ (And.intro ?_ ?_)))
      · exact ⟨rfl, rfl, rfl, rfl, trivial⟩
      · exact ⟨by simp only; omega, c05.fresh hc6 hfr, ho6, hfr6, by simp only; rw [htk, liveS_snoc, if_neg (by rw [hg]; simp), ← hacc]⟩
      · simp only; omega
  · have hkl : k = l.length := by omega
    have e : S.take k = S := List.take_of_length_le (by omega)
    rw [e] at hacc
    rw [← hacc]
    exact And.intro ho (And.intro hfr c1)

end Go.Proofs.YtaffnlibmkcgiaaGreat
namespace Go.Proofs.YtaffnlibmkcgiaaGreat
open Go Go.Sx Go.Proofs.YtaffnlibmkcgiaaGreat.C

/-- A turn of a loop's record keeps what stands in cells. -/
theorem turn_ch {h h' : Heap} {l : Nat} {r : Loop} {st : LoopState} {p : Option Go.Code} {st' : LoopState} {p' : Option Go.Code} (L : LoopB h l r st p) (t : Turn h h' l r st' p') : CH h h' := by
  refine ⟨fun b l' hb => ?_, fun b o v' hc => ?_⟩
  · have : b ≠ l := by
      rintro rfl
      obtain ⟨e, he⟩ := hb
      have := L.at_
      rw [he] at this; cases this
    obtain ⟨e, he⟩ := hb
    exact ⟨e, by rw [t.old b this]; exact he⟩
  · have : b ≠ l := by
      rintro rfl
      have := L.at_
      unfold Sx.cell at hc
      rw [this] at hc; cases hc
    unfold Sx.cell at hc ⊢
    rw [t.old b this]; exact hc

theorem KNames_calls {h : Heap} {kb sb mb c : Nat} {m : List KI} {S : Space} (now : Int) (kr : KR h kb sb mb c m) (hW : Sorted m S) :
    CallsH Tryz.prog 25 [ptr kb, .int .i64 now] h (Ret fun r h' => SL encS h' r (liveS now S) ∧ Chg [] h h') := by
  have hml := kr.len
  have hSl := sorted_len kr.nodup hW
  refine f25_calls (by simp) ?_
  intro b3 h1 g1
  intro b5 h2 g2
  refine call_ret (All_calls (h := h2)) ?_
  rintro _ h3 ⟨b1, rfl, g3⟩
  have c1 := g1.chg
  have c12 : Chg [] h1 h3 := g2.chg.nil g3.chg
  have c3 : Chg [] h h3 := c1.nil c12
  have i3 := g1.id; have i5 := g2.id; have i1 := g3.id
  have z1 := g1.size; have z2 := g2.size; have z3 := g3.size
  have B33 : Blk h3 b3 [.int .i64 now] := (show Blk h1 b3 [.int .i64 now] from g1.blk).chg c12 (by simp)
  have B53 : Blk h3 b5 [.slice none 0 0] := (show Blk h2 b5 [.slice none 0 0] from g2.blk).chg g3.chg (by simp)
  intro l D r h7 hD hl7 hsz hold hmark hloop hy
  have hc7 : Chg [] h3 h7 := ⟨by omega, fun k hk _ => hold k hk⟩
  have hc07 := c3.nil hc7
  have B17 : Blk h7 b1 [ptr kb] := (show Blk h3 b1 [ptr kb] from g3.blk).chg hc7 (by simp)
  refine (iter_calls hW (fun p k h' => Round h l D b1 kb r p h' ∧ Blk h' b3 [.int .i64 now] ∧ ∃ a cc out, Blk h' b5 [.slice a out.length cc] ∧ OL encS 1 h' (.slice a out.length cc) out ∧ (∀ q ∈ ablk a, p < q) ∧ out = liveS now (S.take k)) (fun _ => False) B17 (kr.ext hc07)
    (fun p h' hp1 hp2 hc => ?_) (fun p k h' j => ⟨j.1.b1, kr.ext j.1.chg⟩) (fun p k h' h'' j hc => ?_) (fun p k h' us hk j tu => ?_)).mono ?_
  · exact ⟨⟨loopB_chg hloop hc (by simp), get_chg hmark hc (by simp), B17.chg hc (by simp), hc07.nil hc, by omega, hp2⟩, (B33.chg hc7 (by simp)).chg hc (by simp), none, 0, [], (B53.chg hc7 (by simp)).chg hc (by simp), OL.nil, by simp [ablk], by simp [liveS]⟩
  · obtain ⟨j, j3, a, cc, out, j5, jo, jq, je⟩ := j
    exact ⟨j.ext hc, j3.chg hc (by simp), a, cc, out, j5.chg hc (by simp), jo.ext hc, jq, je⟩
  · obtain ⟨j, j3, a, cc, out, j5, jo, jq, je⟩ := j
    have hps := j.lt
    have hpn := j.pn
    have hll : l < h'.size := get_lt j.loop.at_
    have hbl := hc07.size
    refine hy h' _ _ j.loop rfl ?_
    intro b7 h8 g8
    refine Exists.intro _ (And.intro g8.blk (And.intro (by decide) (And.intro tu.len (And.intro (thing_one tu) ?_))))
    intro h9 p9
    have g9 := g8.put p9
    have c9 := g9.chg
    have B7 : Blk h9 b7 us := by
      have h8 : Blk h9 b7 (splice zeroV 0 us) := p9.blk
      rw [seven rfl tu.len] at h8
      exact h8
    have L9 := loopB_chg j.loop c9 (by simp)
    refine And.intro L9 (fun h10 t10 => ?_)
    have i7 := g9.id
    have z9 := g9.size
    have c10 : Chg [l] h' h10 := (c9.mono (by simp)).trans t10.chg (fun _ hk => hk) (fun _ hk _ => hk)
    have C3 := j3.chg c10 (by simp; omega)
    have C5 := j5.chg c10 (by simp; omega)
    have C7 : Blk h10 b7 us := B7.chg t10.chg (by simp; omega)
    have tu10 : TH h10 us S[k].2 := (tu.ext c9).ch (turn_ch L9 t10)
    have jo10 := jo.chg c10 (fun b hb => by have := jq b hb; simp; omega)
    have jlt := jo.lt
    refine Exists.intro us (And.intro tu10.len (And.intro (cells_blk C7) ?_))
    refine Exists.intro _ (And.intro (cell_blk C3 rfl) ?_)
    refine call_ret (gone_calls tu10 now) ?_
    rintro _ h11 ⟨rfl, c11⟩
    have z10 := c10.size
    have z11 := c11.size
    have D3 := C3.chg c11 (by simp)
    have D5 := C5.chg c11 (by simp)
    have L11 : LoopB h11 l r .busy none := loopB_chg t10.rec_ c11 (by simp)
    have htk : S.take (k + 1) = S.take k ++ [S[k]] := take_snoc S k hk
    have hal : out.length ≤ k := by
      have := liveS_len (now := now) (S := S.take k)
      rw [← je, List.length_take] at this
      omega
    cases hg : (S[k].2.hasU && decide (S[k].2.unt ≤ now)) with
    | true =>
      refine And.intro L11 (fun h13 t13 => ?_)
      have cU : Chg [l] h' h13 := ((c10.step c11 (by simp)).step t13.chg (fun _ h _ => h))
      have z13 := cU.size
      refine .inl ⟨rfl, ⟨⟨t13.rec_, get_chg j.mark cU (by simp; omega), j.b1.chg cU (by simp; omega), j.chg.fresh cU (by simp; omega), hps, by omega⟩, j3.chg cU (by simp; omega), a, cc, out, j5.chg cU (by simp; omega), jo.chg cU (fun b hb => by have := jq b hb; simp; omega), jq, ?_⟩, cU.old p hpn (by simp; omega)⟩
      rw [htk, liveS_snoc, if_pos (show goneT S[k].2 now = true from hg), List.append_nil]; exact je
    | false =>
      refine Exists.intro _ (And.intro (cell_blk D5 rfl) ?_)
      intro b18 h12 g12
      have one : SL encS h12 (.slice (some ⟨b18, 0, none⟩) 1 1) [S[k].1] := SL.one encS_len g12.blk
      have z12 := g12.size
      have jo12 := (jo10.ext c11).ext g12.chg
      refine app_own encS_len encS_one rfl jo12 one (by simp; omega) ?_
      intro v6 h13 ho13 hc13 hb13
      obtain ⟨a6, c6, rfl, _⟩ := ho13.sl.form
      have z13 := hc13.size
      have hq6 : ∀ q ∈ ablk a6, p < q ∧ q ≠ b5 ∧ q ≠ b3 := fun q hq => by
        rcases hb13 q hq with h' | h'
        · have := jq q h'; omega
        · omega
      have c1213 : Chg (l :: ablk a) h' h13 := (((c10.mono (by simp)).step c11 (by simp)).step g12.chg (by simp)).step hc13 (fun k hk _ => List.mem_cons_of_mem _ hk)
      have E5 : Blk h13 b5 [.slice a out.length cc] := j5.chg c1213 (by
        intro hx
        rcases List.mem_cons.1 hx with h' | h'
        · omega
        · have := jq _ h'; omega)
      refine Exists.intro _ (And.intro E5 (And.intro (by simp) (And.intro rfl (And.intro (ones1 rfl) ?_))))
      intro h14 p14
      have z14 := p14.chg.size
      have c14 : Chg (l :: b5 :: ablk a) h' h14 := (c1213.mono (fun x hx => by rcases List.mem_cons.1 hx with h' | h' <;> simp [h'])).step p14.chg (fun k hk _ => by simp at hk; simp [hk])
      have nin : ∀ x, x < p → x ≠ l → x ≠ b5 → x ∉ l :: b5 :: ablk a := fun x hx h1 h2 hm => by
        rcases List.mem_cons.1 hm with h' | h'
        · exact h1 h'
        · rcases List.mem_cons.1 h' with h' | h'
          · exact h2 h'
          · have := jq _ h'; omega
      have L14 : LoopB h14 l r .busy none := by
        have c1114 : Chg (b5 :: ablk a) h11 h14 := ((g12.chg.mono (by simp)).step hc13 (fun k hk _ => List.mem_cons_of_mem _ hk)).step p14.chg (fun k hk _ => by simp at hk; simp [hk])
        refine loopB_chg L11 c1114 (fun hx => ?_)
        rcases List.mem_cons.1 hx with h' | h'
        · omega
        · have := jq _ h'; omega
      refine And.intro L14 (fun h15 t15 => ?_)
      have c15 : Chg (l :: b5 :: ablk a) h' h15 := c14.step t15.chg (fun k hk _ => by simp at hk; simp [hk])
      have z15 := c15.size
      have pn : p ∉ l :: b5 :: ablk a := fun hm => by
        rcases List.mem_cons.1 hm with h' | h'
        · omega
        · rcases List.mem_cons.1 h' with h' | h'
          · omega
          · have := jq _ h'; omega
      refine .inl ⟨rfl, ⟨⟨t15.rec_, get_chg j.mark c15 (nin _ (by omega) (by omega) (by omega)), j.b1.chg c15 (nin _ (by omega) (by omega) (by omega)), j.chg.fresh c15 (fun x hx => ?_), hps, by omega⟩, j3.chg c15 (nin _ (by omega) (by omega) (by omega)), a6, c6, out ++ [S[k].1], (show Blk h14 b5 _ from p14.blk).chg t15.chg (by simp; omega), ?_, fun q hq => (hq6 q hq).1, ?_⟩, c15.old p hpn pn⟩
      · rcases List.mem_cons.1 hx with h' | h'
        · omega
        · rcases List.mem_cons.1 h' with h' | h'
          · omega
          · have := jq _ h'; omega
      · exact (ho13.chg p14.chg (fun q hq => by have := hq6 q hq; simp; omega)).chg t15.chg (fun q hq => by have := hq6 q hq; simp; omega)
      · rw [htk, liveS_snoc, if_neg (by unfold goneT; rw [hg]; simp), ← je]
  · intro e h8 he
    cases e with
    | panicked ch => exact he.elim
    | outgrown => exact he.elim
    | returned u =>
      obtain ⟨p, j, j3, a, cc, out, j5, jo, jq, je⟩ | hF := he
      rotate_left
      · exact hF.elim
      have hps := j.lt
      have hpn := j.pn
      have hll : l < h8.size := get_lt j.loop.at_
      rw [List.take_of_length_le (Nat.le_refl _)] at je
      refine ⟨.ready, none, j.loop, by simp, fun h9 t9 => ?_⟩
      have E5 := j5.chg t9.chg (by simp; omega)
      refine Exists.intro _ (And.intro (cell_blk E5 rfl) ?_)
      refine And.intro (get_chg j.mark t9.chg (by simp; omega)) (fun h11 p11 => ?_)
      have c811 : Chg [l, D] h8 h11 := t9.chg.trans p11.chg (fun x hx => by simp at hx; simp [hx]) (fun x hx _ => by simp at hx; simp [hx])
      have hfin := jo.chg c811 (fun b hb => by have := jq b hb; simp; omega)
      rw [je] at hfin
      rw [je]
      exact And.intro hfin.sl (j.chg.fresh c811 (by simp; omega))

theorem Size_calls {h : Heap} {kb sb mb c : Nat} {m : List KI} {S : Space} (now : Int) (kr : KR h kb sb mb c m) (hW : Sorted m S) :
    CallsH Tryz.prog 26 [ptr kb, .int .i64 now] h (Ret fun r h' => r = .int .i64 (liveS now S).length ∧ Chg [] h h') := by
  refine f26_calls (by simp) ?_
  refine call_ret (KNames_calls now kr hW) ?_
  rintro r1 h1 ⟨hs, c1⟩
  obtain ⟨a, cc, rfl, _⟩ := hs.form
  exact And.intro rfl c1

end Go.Proofs.YtaffnlibmkcgiaaGreat
namespace Go.Proofs.YtaffnlibmkcgiaaGreat
open Go Go.Sx Go.Proofs.YtaffnlibmkcgiaaGreat.C

theorem zero_lens : Lens zeroT := ⟨by show (0 : Nat) ≤ 70000; decide, by show (0 : Nat) ≤ 70000; decide, by show (0 : Nat) ≤ 70000; decide⟩

theorem get_lens {l : List RX} (rg : RG l) (key : ByteArray) (now : Int) : Lens ((getS (l.map RX.pr) key now).getD zeroT) := by
  unfold getS
  cases hf : findS (l.map RX.pr) key with
  | none => exact zero_lens
  | some t =>
    simp only
    split
    · exact zero_lens
    · exact (rg.ins _ (findS_mem hf)).good.lens

theorem Tells_rest {h0 h : Heap} {kb sb mb c : Nat} {m : List KI} {a : Option Addr} {cc : Nat} {k : List RX} (key : ByteArray) (now : Int) (c0 : Chg [] h0 h) (kr : KR h kb sb mb c m) (hW : Sorted m (k.map RX.pr)) (hw : SL encX h (.slice a k.length cc) k)
    (g : GX h k) (rg : RG k) (hkz : key.size < 4611686018427387904) :
    swp Tryz.prog (.seq (.ops f6r11) (.seq (.ops f6r12) (.seq (.ops f6r13) (.seq (.ops f6r14) (.seq (.seq (.ops f6r15) (.cond (.tmp 128) (.seq (.ops f6r16) .ret) .skip)) (.seq (.seq (.ops f6r17) (.block 0 (.loop f6l22))) (.seq (.ops f6r23) .ret))))))) (retQ [.t 6] (Ret fun r h' => r = .bool true ∧ Chg [] h0 h')) (mk [(1, .string key), (2, .int .i64 now), (7, ptr kb), (9, .slice a k.length cc)]) [] h := by
  obtain ⟨S, hS⟩ : ∃ S, S = k.map RX.pr := ⟨_, rfl⟩
  rw [← hS] at hW
  have hl := rg.len
  have hlens := get_lens rg key now
  have hgg := get_get rg.up key now
  rw [← hS] at hlens hgg
  have hSl : S.length = k.length := by rw [hS]; simp
  have hnl := liveS_len (now := now) (S := S)
  obtain ⟨go, hgo⟩ : ∃ go, go = getS S key now := ⟨_, rfl⟩
  rw [← hgo] at hlens hgg
  refine call_ret (KGet_calls key now kr hW) ?_
  rintro r1 h1 ⟨⟨us, hr1, tu⟩, c1⟩
  rw [← hgo] at hr1 tu
  subst hr1
  intro b15 h2 g2
  refine Exists.intro zeroV (And.intro g2.blk (And.intro (by decide) (And.intro tu.len (And.intro (thing_one tu) ?_))))
  intro h3 p3
  have g3 : Grow h1 h3 b15 us := by
    have h8 : Grow h1 h3 b15 (splice zeroV 0 us) := g2.put p3
    rw [seven rfl tu.len] at h8
    exact h8
  have c3 : Chg [] h h3 := c1.nil g3.chg
  have tu3 := tu.ext g3.chg
  have hw3 := hw.ext c3
  refine call_ret (RGet_calls key now hw3 (g.ext c3) (by omega) hkz rg.fit) ?_
  rintro r4 h4 ⟨⟨ws, hr4, tw⟩, c4⟩
  rw [hgg] at hr4 tw
  subst hr4
  intro b17 h5 g5
  refine Exists.intro zeroV (And.intro g5.blk (And.intro (by decide) (And.intro tw.len (And.intro (thing_one tw) ?_))))
  intro h6 p6
  have g6 : Grow h4 h6 b17 ws := by
    have h8 : Grow h4 h6 b17 (splice zeroV 0 ws) := g5.put p6
    rw [seven rfl tw.len] at h8
    exact h8
  have c36 : Chg [] h3 h6 := c4.nil g6.chg
  have c6 : Chg [] h h6 := c3.nil c36
  refine call_ret (RNames_calls now (hw.ext c6) (g.ext c6) rg) ?_
  rintro r7 h7 ⟨hn7, _, c7⟩
  rw [← hS] at hn7
  obtain ⟨a7, c7', rfl, _⟩ := hn7.sl.form
  have c07 := c6.nil c7
  refine call_ret (KNames_calls now (kr.ext c07) hW) ?_
  rintro r8 h8 ⟨hn8, c8⟩
  obtain ⟨a8, c8', rfl, _⟩ := hn8.form
  have c08 := c07.nil c8
  have c38 : Chg [] h3 h8 := (c36.nil c7).nil c8
  have c68 : Chg [] h6 h8 := c7.nil c8
  have B15 : Blk h8 b15 us := g3.blk.chg c38 (by simp)
  have B17 : Blk h8 b17 ws := g6.blk.chg c68 (by simp)
  refine And.intro (fun _ => ?_) (fun hne => absurd rfl hne)
  refine Exists.intro us (And.intro tu.len (And.intro (cells_blk B15) ?_))
  refine Exists.intro ws (And.intro tw.len (And.intro (cells_blk B17) ?_))
  refine call_ret (RSame_calls (tu3.ext c38) ((tw.ext g6.chg).ext c68) hlens.fits hlens.fits) ?_
  rintro r9 h9 ⟨hr9, c9⟩
  rw [decide_eq_true rfl] at hr9
  subst hr9
  have c09 := c08.nil c9
  refine call_ret (Size_calls now (kr.ext c09) hW) ?_
  rintro _ h10 ⟨rfl, c10⟩
  have c010 := c09.nil c10
  refine And.intro rfl (And.intro (fun hne => absurd rfl hne) (fun _ => ?_))
  refine And.intro rfl (And.intro (fun hne => absurd rfl hne) (fun _ => ?_))
  have n7 := ((hn7.sl.ext c8).ext c9).ext c10
  have n8 := (hn8.ext c9).ext c10
  refine loop_intro (fun i : Nat => [(19, .slice a7 (liveS now S).length c7'), (20, .slice a8 (liveS now S).length c8'), (21, .int .i64 i)]) (fun i h' => i ≤ (liveS now S).length ∧ h' = h10) (fun i => (liveS now S).length - i) 0
    ⟨rfl, rfl, rfl, trivial⟩ ⟨Nat.zero_le _, rfl⟩ ?_
  rintro i h11 ⟨hi, e11⟩
  have e11 := e11.symm
  subst e11
  refine And.intro rfl (And.intro (fun ht => ?_) (fun ht => ?_))
  · have hlt : i < (liveS now S).length := by omega
    obtain ⟨b, o, e7⟩ := n7.addr (by omega)
    obtain ⟨b', o', e8⟩ := n8.addr (by omega)
    subst e7 e8
    have q7 := n7.cells encS_len (i := i) (x := (liveS now S)[i]) (by simp [hlt])
    have q8 := n8.cells encS_len (i := i) (x := (liveS now S)[i]) (by simp [hlt])
    refine And.intro (by omega) (And.intro (by omega) (Exists.intro _ (And.intro (q8 0 _ rfl) ?_)))
    refine And.intro (by omega) (And.intro (by omega) (Exists.intro _ (And.intro (q7 0 _ rfl) ?_)))
    refine And.intro (fun hne => absurd rfl hne) (fun _ => ?_)
    refine And.intro rfl (fun z hz => ?_)
    have hz := add_in hz (by omega) (by omega)
    subst hz
    refine And.intro rfl (Exists.intro (i + 1) (And.intro ?_ (And.intro ?_ ?_)))
    · exact ⟨rfl, rfl, rfl, trivial⟩
    · exact ⟨by omega, rfl⟩
    · omega
  · refine call_ret known_calls ?_
    rintro _ h12 ⟨rfl, c12⟩
    exact And.intro rfl ((c0.nil c010).nil c12)

theorem KeysTells_calls {h : Heap} {v : Value} {l : List RX} (key : ByteArray) (now : Int) (hv : SL encX h v l) (g : GX h l) (f : XFit l) (hkz : key.size < 4611686018427387904) :
    CallsH Tryz.prog 6 [v, .string key, .int .i64 now] h (Ret fun r h' => r = .bool true ∧ Chg [] h h') := by
  refine f6_calls (by simp) ?_
  refine call_ret (vast_calls hv (SL.nil (enc := encD)) g f ⟨by simp, by simp⟩) ?_
  rintro _ h1 ⟨⟨b, rfl, hb⟩, c1⟩
  cases b with
  | true =>
    refine call_ret known_calls ?_
    rintro _ h2 ⟨rfl, c2⟩
    exact And.intro rfl (c1.nil c2)
  | false =>
    obtain ⟨nv, _⟩ := hb rfl
    refine call_ret (KOf_calls (hv.ext c1) (g.ext c1) nv) ?_
    rintro r2 h2 ⟨c2, ho⟩
    have c02 := c1.nil c2
    cases hk : ofX [] l with
    | none =>
      rw [hk] at ho
      subst ho
      refine call_ret (ROf_calls (hv.ext c02) (g.ext c02) nv) ?_
      rintro r3 h3 ⟨c3, hr⟩
      have c03 := c02.nil c3
      rw [hk] at hr
      subst hr
      refine And.intro rfl (And.intro (fun _ => ?_) (fun hne => absurd (by decide) hne))
      refine And.intro rfl (And.intro (fun _ => ?_) (fun hne => absurd rfl hne))
      refine call_ret known_calls ?_
      rintro _ h4 ⟨rfl, c4⟩
      exact And.intro rfl (c03.nil c4)
    | some k =>
      rw [hk] at ho
      obtain ⟨kb, sb, mb, c, m, rfl, kr, hpr, hmb⟩ := ho
      refine call_ret (ROf_calls (hv.ext c02) (g.ext c02) nv) ?_
      rintro r3 h3 ⟨c3, hr⟩
      have c03 := c02.nil c3
      rw [hk] at hr
      obtain ⟨w, rfl, hw, hwb⟩ := hr
      obtain ⟨hW, hI⟩ := sorted_in nv hpr hk
      have rg := rg_of nv hk
      have kr3 := kr.ext c3
      obtain ⟨a, cc, rfl, _⟩ := hw.sl.form
      have hl := rg.len
      refine And.intro rfl (And.intro (fun hne => absurd rfl hne) (fun _ => ?_))
      refine And.intro rfl (And.intro (fun hne => absurd rfl hne) (fun _ => ?_))
      refine call_ret (LookK_calls key kr3) ?_
      rintro _ h4 ⟨hlook, c4⟩
      have c34 := c4
      rcases hlook with ⟨i, hi, hik, pv, lv, rv, rfl, o4, _⟩ | ⟨hno, rfl⟩
      · have hfs : findS (k.map RX.pr) key = some i.thing := by rw [← hik]; exact find_mem hW hi
        intro b11 h5 g5
        refine Exists.intro zeroV (And.intro g5.blk (And.intro (by decide) (And.intro rfl (And.intro (thing_one o4.th) ?_))))
        intro h6 p6
        have g6 := g5.put p6
        have B11 : Blk h6 b11 (cellsT i.thing pv lv rv) := p6.blk
        have c36 : Chg [] h3 h6 := c4.nil g6.chg
        refine call_ret (Find_calls key (hw.sl.ext c36) (by omega) hkz rg.fit) ?_
        rintro r7 h7 ⟨hr7, e7⟩
        have e7 := e7.symm
        subst e7
        cases hb2 : (findX key k).2 with
        | false => rw [find_no rg.up hb2] at hfs; cases hfs
        | true =>
          obtain ⟨hlt, hkey⟩ := findX_hit key k hb2
          have hfy := find_yes rg.up hlt hkey
          rw [hb2] at hr7
          subst hr7
          rw [hfs] at hfy
          have hth := Option.some.inj hfy
          generalize (findX key k).1 = j at *
          have hmem : k[j] ∈ k := List.getElem_mem hlt
          have hw6 := hw.sl.ext c36
          obtain ⟨b, o, rfl⟩ := hw6.addr (by omega)
          have hcs := hw6.cells encX_len (i := j) (x := k[j]) (by simp [hlt])
          have tk : TH h6 k[j].vs k[j].thing := (gx_of (g.ext (c03.nil c36)) hk) _ hmem
          have hfits := (rg.tin _ hmem).good.lens.fits
          refine And.intro (fun _ => ?_) (fun hne => absurd rfl hne)
          refine Exists.intro _ (And.intro rfl (And.intro (cells_blk B11) ?_))
          refine And.intro (by omega) (And.intro (by omega) (Exists.intro k[j].vs (And.intro k[j].len (And.intro (cells_vs hcs) ?_))))
          refine call_ret (RSame_calls (o4.ext g6.chg).th tk (by rw [hth]; exact hfits) hfits) ?_
          rintro r8 h8 ⟨hr8, c8⟩
          rw [decide_eq_true hth] at hr8
          subst hr8
          have c38 := c36.nil c8
          exact cut_at [(1, .string key), (2, .int .i64 now), (7, ptr kb), (9, .slice (some ⟨b, o, none⟩) k.length cc)] ⟨rfl, rfl, rfl, rfl, trivial⟩ (Tells_rest key now (c03.nil c38) (kr3.ext c38) hW (hw.sl.ext c38) (gx_of (g.ext (c03.nil c38)) hk) rg hkz)
      · have hfs := find_out hW hno
        intro b11 h5 g5
        refine Exists.intro zeroV (And.intro g5.blk (And.intro (by decide) (And.intro rfl (And.intro (thing_one (zero_TH (h := h5))) ?_))))
        intro h6 p6
        have g6 := g5.put p6
        have B11 : Blk h6 b11 zeroV := p6.blk
        have c36 : Chg [] h3 h6 := c4.nil g6.chg
        refine call_ret (Find_calls key (hw.sl.ext c36) (by omega) hkz rg.fit) ?_
        rintro r7 h7 ⟨hr7, e7⟩
        have e7 := e7.symm
        subst e7
        cases hb2 : (findX key k).2 with
        | true =>
          obtain ⟨hlt, hkey⟩ := findX_hit key k hb2
          rw [find_yes rg.up hlt hkey] at hfs; cases hfs
        | false =>
          rw [hb2] at hr7
          subst hr7
          refine And.intro (fun _ => ?_) (fun hne => absurd rfl hne)
          refine Exists.intro zeroV (And.intro rfl (And.intro (cells_blk B11) ?_))
          refine call_ret (RSame_calls (vs := zeroV) (us := zeroV) (a := zeroT) (b := zeroT) zero_TH zero_TH zero_lens.fits zero_lens.fits) ?_
          rintro r8 h8 ⟨hr8, c8⟩
          rw [decide_eq_true rfl] at hr8
          subst hr8
          have c38 := c36.nil c8
          exact cut_at [(1, .string key), (2, .int .i64 now), (7, ptr kb), (9, .slice a k.length cc)] ⟨rfl, rfl, rfl, rfl, trivial⟩ (Tells_rest key now (c03.nil c38) (kr3.ext c38) hW (hw.sl.ext c38) (gx_of (g.ext (c03.nil c38)) hk) rg hkz)

end Go.Proofs.YtaffnlibmkcgiaaGreat
