/-
  RanksBounds: the members and coins that it makes.
-/
import Derived.Test.YtlghcmdaijfdlaaDoorLwI
namespace Go.Proofs.YtlghcmdaijfdlaaDoor
open Go Go.Sx Go.Proofs.YtlghcmdaijfdlaaDoor.C

def zR : Rank := ⟨⟨#[]⟩, 0⟩

theorem rep_flat {α : Type} (enc : α → List Value) (x : α) (n : Nat) : (List.replicate n (enc x)).flatten = (List.replicate n x).flatMap enc := by
  rw [List.flatMap, List.map_replicate]

theorem SL.of_blk' {α : Type} {enc : α → List Value} {h : Heap} {b n : Nat} {l : List α} (hn : l.length = n) (hb : Blk h b (l.flatMap enc)) : SL enc h (.slice (some ⟨b, 0, none⟩) n n) l := by
  subst hn; exact SL.of_blk hb

/-- The first k members, the others not made yet. -/
def mbz (n k : Nat) : List Rank := mbs k ++ List.replicate (n - k) zR

theorem mbz_len {n k : Nat} (h : k ≤ n) : (mbz n k).length = n := by
  unfold mbz
  rw [List.length_append, mbs_len, List.length_replicate]; omega

theorem mbz_set {n k : Nat} (h : k < n) : (mbz n k).set k (mb k) = mbz n (k + 1) := by
  unfold mbz
  have hr : List.replicate (n - k) zR = zR :: List.replicate (n - (k + 1)) zR := by
    rw [show n - k = (n - (k + 1)) + 1 by omega, List.replicate_succ]
  have hm : mbs (k + 1) = mbs k ++ [mb k] := by unfold mbs; rw [List.range_succ, List.map_append]; rfl
  rw [hr, List.set_append_right _ _ (by rw [mbs_len]; omega), mbs_len, Nat.sub_self, List.set_cons_zero, hm, List.append_assoc]; rfl

theorem mbz_all (n : Nat) : mbz n n = mbs n := by unfold mbz; simp

/-- What the walk has made: members up to k, coins, apart. -/
structure Made (n b1 b2 k : Nat) (h0 h : Heap) : Prop where
  mem : Blk h b1 ((mbz n k).flatMap encR)
  coins : ∃ cs : List Int, cs.length = n ∧ Blk h b2 (cs.flatMap encI)
  chg : Chg [] h0 h
  ne : b1 ≠ b2
  new1 : h0.size ≤ b1
  new2 : h0.size ≤ b2

theorem Made.ext {n b1 b2 k : Nat} {h0 h h' : Heap} (m : Made n b1 b2 k h0 h) (hc : Chg [] h h') : Made n b1 b2 k h0 h' where
  mem := m.mem.chg hc (by simp)
  coins := let ⟨cs, h1, h2⟩ := m.coins; ⟨cs, h1, h2.chg hc (by simp)⟩
  chg := m.chg.nil hc
  ne := m.ne
  new1 := m.new1
  new2 := m.new2

theorem Made.put1 {n b1 b2 k : Nat} {h0 h h' : Heap} (m : Made n b1 b2 k h0 h) (hk : k < n) (p : Put h h' b1 (splice ((mbz n k).flatMap encR) (k * 2) (encR (mb k)))) : Made n b1 b2 (k + 1) h0 h' where
  mem := by
    have := p.blk
    rw [splice_set encR_len (by rw [mbz_len (by omega)]; exact hk), mbz_set hk] at this
    exact this
  coins := let ⟨cs, h1, h2⟩ := m.coins; ⟨cs, h1, h2.chg p.chg (by simp; exact fun e => m.ne e.symm)⟩
  chg := m.chg.fresh p.chg (by simp; exact m.new1)
  ne := m.ne
  new1 := m.new1
  new2 := m.new2

theorem Made.put2 {n b1 b2 k i : Nat} {h0 h h' : Heap} {cs : List Int} (m : Made n b1 b2 k h0 h) (hcs : cs.length = n) (hi : i < n) (w : Int) (p : Put h h' b2 (splice (cs.flatMap encI) (i * 1) (encI w))) : Made n b1 b2 k h0 h' where
  mem := m.mem.chg p.chg (by simp; exact m.ne)
  coins := by
    have := p.blk
    rw [splice_set encI_len (by omega)] at this
    exact ⟨_, by simp [hcs], this⟩
  chg := m.chg.fresh p.chg (by simp; exact m.new2)
  ne := m.ne
  new1 := m.new1
  new2 := m.new2

theorem coin_at {h : Heap} {b i : Nat} {cs : List Int} (hb : Blk h b (cs.flatMap encI)) (hi : i < cs.length) : cell h b (i * 1) = some (.int .i64 cs[i]) := by
  have := flatMap_get encI_len cs i cs[i] (by simp) 0 _ rfl
  exact cell_blk hb this

theorem quo_in {a z : Int} (b : Nat) {k : Nat} (ha : a = k) (hk : k < 9223372036854775808) (hz : z = IntKind.i64.wrap (a.tdiv (b : Int))) : z = ((k / b : Nat) : Int) := by
  subst ha
  rw [hz, tdiv_nat]
  have := Nat.div_le_self k b
  generalize k / b = q at this ⊢
  exact wrap_in (by omega) (by omega)

/-- One member's coins. -/
theorem coins_round {n b1 b2 k : Nat} {h0 h : Heap} {Q : Post} {τ : Env} (m : Made n b1 b2 (k + 1) h0 h) (hk : k < n) (hn : n < 4611686018427387904)
    (hτ : SubL τ [(0, .bool false), (1, .slice (some ⟨b1, 0, none⟩) n n), (2, .slice (some ⟨b2, 0, none⟩) n n), (3, .int .i64 k), (4, .int .i64 ((k + 1 : Nat) : Int))])
    (hQ : ∀ h' σ, Made n b1 b2 (k + 1) h0 h' → Sub (mk [(0, .bool false), (1, .slice (some ⟨b1, 0, none⟩) n n), (2, .slice (some ⟨b2, 0, none⟩) n n), (3, .int .i64 k)]) σ → Q .normal σ [] h') :
    swp Tryd.prog (.block 2 (.loop f6l10)) Q τ [] h := by
  refine loop_intro (fun i : Nat => [(0, .bool false), (1, .slice (some ⟨b1, 0, none⟩) n n), (2, .slice (some ⟨b2, 0, none⟩) n n), (3, .int .i64 k), (4, .int .i64 i)]) (fun i h' => 1 ≤ i ∧ i ≤ n ∧ Made n b1 b2 (k + 1) h0 h') (fun i => i) (k + 1)
    hτ ⟨by omega, by omega, m⟩ ?_
  rintro i h1 ⟨hi1, hin, m1⟩
  refine And.intro rfl (And.intro (by decide) (fun z hz => ?_))
  have hz : z = ((i % 2 : Nat) : Int) := by rw [hz]; exact tmod_nat i 2
  refine And.intro rfl (And.intro (fun he => ?_) (fun he => ?_))
  · obtain ⟨cs, hcs, B2⟩ := m1.coins
    have hc := coin_at B2 (i := k) (by omega)
    refine And.intro (by omega) (And.intro (by omega) (Exists.intro _ (And.intro (by rw [Nat.zero_add]; exact hc) ?_)))
    refine And.intro rfl (fun w hw => ?_)
    refine And.intro (by omega) (And.intro (by omega) ?_)
    refine Exists.intro _ (And.intro B2 (And.intro (by rw [flatMap_len encI_len]; omega) (And.intro rfl (And.intro (ones1 rfl) ?_))))
    intro h2 p2
    have m2 := m1.put2 hcs hk w (by
      have e : 0 + (k : Int).toNat * 1 = k * 1 := by omega
      rw [e] at p2
      exact p2)
    refine And.intro rfl (And.intro (by decide) (fun y hy => ?_))
    have hy := quo_in 2 rfl (by omega) hy
    subst hy
    refine And.intro rfl (Exists.intro (i / 2) (And.intro ?_ (And.intro ?_ ?_)))
    · exact ⟨rfl, rfl, rfl, rfl, rfl, trivial⟩
    · exact ⟨by omega, by omega, m2⟩
    · omega
  · refine hQ h1 _ m1 (sub_mk ?_)
    exact ⟨rfl, rfl, rfl, rfl, trivial⟩

theorem made_loop {n b1 b2 : Nat} {h0 h : Heap} {Q : Post} {τ : Env} (m : Made n b1 b2 0 h0 h) (hn : n < 4611686018427387904)
    (hτ : SubL τ [(0, .bool false), (1, .slice (some ⟨b1, 0, none⟩) n n), (2, .slice (some ⟨b2, 0, none⟩) n n), (3, .int .i64 ((0 : Nat) : Int))])
    (hQ : ∀ h' σ, Made n b1 b2 n h0 h' → Sub (mk [(0, .bool false), (1, .slice (some ⟨b1, 0, none⟩) n n), (2, .slice (some ⟨b2, 0, none⟩) n n)]) σ → Q .normal σ [] h') :
    swp Tryd.prog (.block 0 (.loop f6l12)) Q τ [] h := by
  refine loop_intro (fun k : Nat => [(0, .bool false), (1, .slice (some ⟨b1, 0, none⟩) n n), (2, .slice (some ⟨b2, 0, none⟩) n n), (3, .int .i64 k)]) (fun k h' => k ≤ n ∧ Made n b1 b2 k h0 h') (fun k => n - k) 0
    hτ ⟨by omega, m⟩ ?_
  rintro k h1 ⟨hk, m1⟩
  refine And.intro rfl (And.intro (fun hlt => ?_) (fun hlt => ?_))
  · have hlt : k < n := by omega
    refine And.intro rfl (fun z1 hz1 => ?_)
    intro y1 hy1
    refine And.intro rfl (fun z2 hz2 => ?_)
    intro y2 hy2
    intro y3 hy3
    have e1 : y1 = ((UInt8.ofNat (k / 65536)).toNat : Int) := by
      rw [hy1, hz1]
      show IntKind.u8.wrap ((k : Int).fdiv ((65536 : Nat) : Int)) = _
      rw [fdiv_nat, u8_of]
    have e2 : y2 = ((UInt8.ofNat (k / 256)).toNat : Int) := by
      rw [hy2, hz2]
      show IntKind.u8.wrap ((k : Int).fdiv ((256 : Nat) : Int)) = _
      rw [fdiv_nat, u8_of]
    have e3 : y3 = ((UInt8.ofNat k).toNat : Int) := by rw [hy3, u8_of]
    clear hy1 hz1 hy2 hz2 hy3
    subst e1 e2 e3
    intro b3 h2 g2
    refine Exists.intro [UInt8.ofNat (k / 65536), UInt8.ofNat (k / 256), UInt8.ofNat k] (And.intro rfl (And.intro (cells_blk g2.blk) ?_))
    refine And.intro rfl (And.intro (by decide) (fun z4 hz4 => ?_))
    have hz4 : z4 = ((k % 7 : Nat) : Int) := by rw [hz4]; exact tmod_nat k 7
    subst hz4
    refine And.intro (by omega) (And.intro (by omega) ?_)
    have m2 := m1.ext g2.chg
    refine Exists.intro _ (And.intro m2.mem (And.intro (by rw [flatMap_len encR_len, mbz_len hk]; omega) (And.intro rfl (And.intro (encR_one (mb k)) ?_))))
    intro h3 p3
    have m3 := m2.put1 hlt (by
      have e : 0 + (k : Int).toNat * 2 = k * 2 := by omega
      rw [e] at p3
      exact p3)
    refine And.intro rfl (fun z5 hz5 => ?_)
    have hz5 := add_in hz5 (by omega) (by omega)
    subst hz5
    refine coins_round m3 hlt hn ⟨rfl, rfl, rfl, rfl, rfl, trivial⟩ ?_
    intro h4 σ' m4 hsub
    refine sops_sub (P := Tryd.prog) (Qp := fun _ _ => False) (fun ch h hf => hf.elim)
      (K := fun σ1 h5 => SubL σ1 [(0, .bool false), (1, .slice (some ⟨b1, 0, none⟩) n n), (2, .slice (some ⟨b2, 0, none⟩) n n), (3, .int .i64 ((k + 1 : Nat) : Int))] ∧ h5 = h4) ?_ f6r11 _ _ _ hsub ?_
    · rintro σ1 σ2 h5 h12 ⟨hs1, rfl⟩
      refine And.intro rfl (Exists.intro (k + 1) (And.intro (hs1.sub h12) (And.intro ?_ ?_)))
      · exact ⟨by omega, m4⟩
      · omega
    · refine And.intro rfl (fun z6 hz6 => ?_)
      have hz6 := add_in hz6 (by omega) (by omega)
      subst hz6
      exact ⟨⟨rfl, rfl, rfl, rfl, trivial⟩, rfl⟩
  · have hkn : k = n := by omega
    subst hkn
    refine hQ h1 _ m1 (sub_mk ?_)
    exact ⟨rfl, rfl, rfl, trivial⟩

end Go.Proofs.YtlghcmdaijfdlaaDoor
