/-
  RanksPlays: what a set has behind any calls.
-/
import Derived.Test.YtlghcmdaijfdlaaDoorLwF
namespace Go.Proofs.YtlghcmdaijfdlaaDoor
open Go Go.Sx Go.Proofs.YtlghcmdaijfdlaaDoor.C

structure Act where
  what : Int
  coin : Int
  m : Rank

def encA (a : Act) : List Value := [.int .i64 a.what, .int .i64 a.coin, .string a.m.name, .int .i64 a.m.score]
theorem encA_len (a : Act) : (encA a).length = 4 := rfl

theorem act_member {h : Heap} {b p : Nat} {a : Act} (hcs : Cells h b p (encA a)) : Cells h b (p + 2) (encR a.m) := by
  intro i v hv
  have : (encA a)[2 + i]? = some v := by
    match i, hv with
    | 0, hv => exact hv
    | 1, hv => exact hv
  have := hcs (2 + i) v this
  rw [Nat.add_assoc]; exact this

theorem play_set_ok {S : List Rank} {x : Rank} (hx : x.name.size ≤ 3000) (hS : S.length ≤ 60) : setErr S x = false := by
  simp [setErr]; omega

theorem plays_calls {h : Heap} {v : Value} {l : List Act} (hv : SL encA h v l) (hl : l.length < 4611686018427387904) (hsz : ∀ x ∈ l, x.m.name.size < 4611686018427387904) (ht : TabH h) :
    CallsH Tryd.prog 5 [v] h (Ret fun r h' => r = .bool true ∧ Chg [] h h') := by
  obtain ⟨a, c, rfl, hlc⟩ := hv.form
  refine f5_calls (by simp) ?_
  refine loop_intro (fun x : Nat × Int => [(0, .slice a l.length c), (2, .bool false), (3, .int .i64 x.2), (4, .int .i64 x.1)])
    (fun x h' => x.1 ≤ l.length ∧ h' = h ∧ 50 * (x.1 : Int) ≤ x.2 ∧ x.2 < 4611686018427391000 ∧ ∀ y ∈ l.take x.1, (y.m.name.size : Int) ≤ x.2) (fun x => l.length - x.1) (0, 0) ⟨rfl, rfl, rfl, rfl, trivial⟩
    ⟨Nat.zero_le _, rfl, by simp, by simp, by simp⟩ ?_
  rintro ⟨k, n⟩ h1 ⟨hk, rfl, hn, hn2, hnm⟩
  simp only at hk hn hn2 hnm
  refine And.intro rfl (And.intro (fun hlt => ?_) (fun hlt => ?_))
  · have hlt : k < l.length := by omega
    refine And.intro rfl (And.intro (fun hm => ?_) (fun hm => ?_))
    · obtain ⟨b, o, rfl⟩ := hv.addr (by omega)
      have hcs := hv.cells encA_len (i := k) (x := l[k]) (by simp [hlt])
      have hs := hsz l[k] (List.getElem_mem hlt)
      refine And.intro rfl (fun z hz => ?_)
      have hz := add_in hz (by omega) (by omega)
      refine And.intro (by omega) (And.intro (by omega) (Exists.intro _ (And.intro (hcs 2 _ rfl) ?_)))
      refine And.intro rfl (fun y hy => ?_)
      have hy := add_in hy (by omega) (by omega)
      refine And.intro rfl (fun w hw => ?_)
      have hw := add_in hw (by omega) (by omega)
      subst hw
      refine And.intro rfl (Exists.intro (k + 1, y) (And.intro ?_ (And.intro ?_ ?_)))
      · exact ⟨rfl, rfl, rfl, rfl, trivial⟩
      · refine ⟨by simp only; omega, rfl, by simp only; omega, by simp only; omega, fun q hq => ?_⟩
        simp only at hq ⊢
        rw [take_snoc l k hlt] at hq
        rcases List.mem_append.1 hq with hq | hq
        · have := hnm q hq; omega
        · have : q = l[k] := by simpa using hq
          rw [this]; omega
      · simp only; omega
    · refine And.intro rfl (And.intro (fun _ => ?_) (fun h2 => absurd h2 (by omega)))
      refine call_ret (works_calls ht) ?_
      rintro _ h3 ⟨rfl, hc3⟩
      exact ⟨rfl, hc3⟩
  have hkl : k = l.length := by omega
  refine And.intro rfl (And.intro (fun h2 => ?_) (fun h2 => ?_))
  · refine call_ret (works_calls ht) ?_
    rintro _ h3 ⟨rfl, hc3⟩
    exact ⟨rfl, hc3⟩
  have h60 : l.length ≤ 60 := by omega
  have hnames : ∀ y ∈ l, y.m.name.size ≤ 3000 := fun y hy => by
    have := hnm y (by rw [hkl, List.take_length]; exact hy)
    omega
  clear hlt hkl hn hn2 hnm hk h2
  refine call_ret (ofm_calls (l := []) (cs := []) SL.nil SL.nil (by simp) (by simp) ht) ?_
  rintro r3 h3 ⟨hc3, hr⟩
  rw [if_pos (show ofErr [] = 0 from rfl)] at hr
  obtain ⟨rv, fp, rfl, rs, hfp⟩ := hr
  have rs : RS h3 rv [] fp := rs
  refine loop_intro (fun i : Nat × Value × List Rank × List Nat => [(0, .slice a l.length c), (2, .bool false), (5, rv), (6, .int .i64 0), (7, i.2.1), (8, .int .i64 i.1)])
    (fun i h' => i.1 ≤ l.length ∧ RS h' rv i.2.2.1 i.2.2.2 ∧ OL encR 2 h' i.2.1 i.2.2.1 ∧ (∀ b ∈ vblk i.2.1, b ∉ i.2.2.2) ∧ i.2.2.1.length ≤ i.1 ∧ Chg [] h1 h' ∧ ∀ b ∈ i.2.2.2, h1.size ≤ b) (fun i => l.length - i.1)
    (0, .slice none 0 0, [], fp) ⟨rfl, rfl, rfl, rfl, rfl, rfl, trivial⟩ ⟨Nat.zero_le _, rs, OL.nil, by simp [vblk, ablk], by simp, hc3, hfp⟩ ?_
  rintro ⟨k, lv, S, fp⟩ h4 ⟨hk, rs, ho, hdis, hS, hc, hfp⟩
  simp only at hk rs ho hdis hS hc hfp
  refine And.intro rfl (And.intro (fun hlt => ?_) (fun hlt => ?_))
  · have hlt : k < l.length := by omega
    have hv4 := hv.ext hc
    obtain ⟨b, o, rfl⟩ := hv.addr (by omega)
    have hcs := hv4.cells encA_len (i := k) (x := l[k]) (by simp [hlt])
    have hnk := hnames l[k] (List.getElem_mem hlt)
    have hse : setErr S l[k].m = false := play_set_ok hnk (by omega)
    refine And.intro (by omega) (And.intro (by omega) (Exists.intro (encR l[k].m) (And.intro rfl (And.intro (act_member hcs) ?_))))
    intro bx h5 g5
    refine Exists.intro _ (And.intro g5.blk (And.intro (by decide) (And.intro rfl (And.intro (encR_one _) ?_))))
    intro h6 p6
    have g6 := g5.put p6
    have B6 : Blk h6 bx (encR l[k].m) := g6.blk
    have hc6 := g6.chg
    have ho6 := ho.ext hc6
    have rs6 := rs.ext hc6
    have hcs6 := (hv4.ext hc6).cells encA_len (i := k) (x := l[k]) (by simp [hlt])
    have hfl := rs6.lt
    refine Exists.intro _ (And.intro (cell_blk B6 rfl) ?_)
    refine call_ret (find_calls ho6.sl l[k].m.name (by omega)) ?_
    rintro _ h7 ⟨rfl, rfl⟩
    refine And.intro rfl (And.intro (fun hge => ?_) (fun hge => ?_))
    all_goals
      refine And.intro (by omega) (And.intro (by omega) (Exists.intro _ (And.intro (hcs6 0 _ rfl) ?_)))
      refine And.intro rfl (And.intro (fun hw => ?_) (fun hw => ?_))
      · refine Exists.intro _ (And.intro (cell_blk B6 rfl) ?_)
        refine call_ret (drop_calls ho6.sl l[k].m.name (by omega)) ?_
        rintro r8 h8 ⟨ho8, hc8, hb8⟩
        have B8 := B6.chg hc8 (by simp)
        refine Exists.intro _ (And.intro (cell_blk B8 rfl) ?_)
        refine call_ret (dropm_calls (rs6.ext hc8) l[k].m.name) ?_
        rintro _ h9 ⟨rfl, hc9, fp9, rs9, hfp9⟩
        refine And.intro (fun _ => ?_) (fun hne => absurd (by simp [hge]) hne)
        refine And.intro rfl (fun z hz => ?_)
        have hz := add_in hz (by omega) (by omega)
        subst hz
        have hdl := dropR_len l[k].m.name S
        refine And.intro rfl (Exists.intro (k + 1, r8, dropR l[k].m.name S, fp9) (And.intro ?_ (And.intro ?_ ?_)))
        · exact ⟨rfl, rfl, rfl, rfl, rfl, rfl, trivial⟩
        · refine ⟨by simp only; omega, rs9, ho8.chg hc9 (fun b hb hb' => ?_), fun b hb hb' => ?_, by simp only; omega, ((hc.nil hc6).nil hc8).fresh hc9 hfp, fun b hb => hfp b (hfp9 b hb)⟩
          · have := hb8 b hb; have := hfl b hb'; omega
          · have := hb8 b hb; have := hfl b (hfp9 b hb'); omega
        · simp only; omega
      · refine Exists.intro (encR l[k].m) (And.intro rfl (And.intro (cells_blk B6) ?_))
        refine call_ret (set_calls ho6.sl l[k].m (by omega)) ?_
        rintro r8 h8 ⟨hc8, hr8⟩
        rw [if_neg (by rw [hse]; simp)] at hr8
        obtain ⟨u8, rfl, ho8, hb8⟩ := hr8
        have B8 := B6.chg hc8 (by simp)
        have hcs8 := ((hv4.ext hc6).ext hc8).cells encA_len (i := k) (x := l[k]) (by simp [hlt])
        refine Exists.intro _ (And.intro (cell_blk B8 rfl) (Exists.intro _ (And.intro (cell_blk B8 rfl) ?_)))
        refine And.intro (by omega) (And.intro (by omega) (Exists.intro _ (And.intro (hcs8 1 _ rfl) ?_)))
        refine call_ret (setm_calls (rs6.ext hc8) l[k].m l[k].coin) ?_
        rintro r9 h9 ⟨hc9, hr9⟩
        rw [if_neg (by rw [hse]; simp)] at hr9
        obtain ⟨rfl, fp9, rs9, hfp9⟩ := hr9
        refine And.intro (fun he => absurd he (by simp; omega)) (fun _ => ?_)
        refine call_ret (num_calls 0) ?_
        rintro _ h10 ⟨rfl, rfl⟩
        refine And.intro rfl (And.intro (fun hne => absurd rfl hne) (fun _ => ?_))
        refine And.intro rfl (fun z hz => ?_)
        have hz := add_in hz (by omega) (by omega)
        subst hz
        have hdl := setR_len S l[k].m
        have hol := ho8.lt
        refine And.intro rfl (Exists.intro (k + 1, u8, setR S l[k].m, fp9) (And.intro ?_ (And.intro ?_ ?_)))
        · exact ⟨rfl, rfl, rfl, rfl, rfl, rfl, trivial⟩
        · refine ⟨by simp only; omega, rs9, ho8.chg hc9 (fun b hb hb' => ?_), fun b hb hb' => ?_, by simp only; omega, ((hc.nil hc6).nil hc8).fresh hc9 hfp, fun b hb => ?_⟩
          · have := hb8 b hb; have := hfl b hb'; omega
          · rcases hfp9 b hb' with hb' | hb'
            · have := hb8 b hb; have := hfl b hb'; omega
            · have := hol b hb; omega
          · rcases hfp9 b hb with hb | hb
            · exact hfp b hb
            · have := ((hc.nil hc6).nil hc8).size; omega
        · simp only; omega
  · refine call_ret (num_calls 0) ?_
    rintro _ h5 ⟨rfl, rfl⟩
    refine And.intro rfl (And.intro (fun _ => ?_) (fun hne => absurd rfl hne))
    refine call_ret (is_calls rs ho.sl) ?_
    rintro _ h6 ⟨rfl, hc6⟩
    have hc16 := hc.nil hc6
    refine call_ret (works_calls (ht.chg hc16 (by simp))) ?_
    rintro _ h7 ⟨rfl, hc7⟩
    exact ⟨rfl, hc16.nil hc7⟩

end Go.Proofs.YtlghcmdaijfdlaaDoor
