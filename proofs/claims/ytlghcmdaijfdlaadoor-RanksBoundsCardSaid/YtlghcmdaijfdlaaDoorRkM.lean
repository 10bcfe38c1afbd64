/-
  begun, Of.
-/
import Derived.Test.YtlghcmdaijfdlaaDoorRkL
namespace Go.Proofs.YtlghcmdaijfdlaaDoor
open Go Go.Sx Go.Proofs.YtlghcmdaijfdlaaDoor.C

theorem rep_get {a b : Value} : ∀ (n i : Nat), i < n → ((List.replicate n [a, b]).flatten)[2 * i]? = some a ∧ ((List.replicate n [a, b]).flatten)[2 * i + 1]? = some b
  | 0, i, h => by omega
  | n + 1, 0, _ => by simp [List.replicate_succ]
  | n + 1, i + 1, h => by
    have ih := rep_get (a := a) (b := b) n i (by omega)
    have e : 2 * (i + 1) = 2 * i + 1 + 1 := by omega
    rw [List.replicate_succ, List.flatten_cons, e]
    simpa using ih

theorem begun_calls {h : Heap} (ht : TabH h) :
    CallsH Tryd.prog 28 [] h (Ret fun u h' => Chg [] h h' ∧ ∃ fp, RS h' u [] fp ∧ ∀ b ∈ fp, h.size ≤ b) := by
  have h1lt : 1 < h.size := by
    obtain ⟨v, _, _, hv⟩ := ht 0 (by omega)
    exact cell_lt hv
  refine f28_calls (by simp) ?_
  refine And.intro (by decide) (And.intro (by decide) (And.intro (by decide) (And.intro (by decide) ?_)))
  intro lb h1 g1
  intro mb h2 g2
  intro mpb h3 g3
  intro rb h4 g4
  have s1 := g1.id; have s1' := g1.size; have s2 := g2.id; have s2' := g2.size; have s3 := g3.id; have s3' := g3.size; have s4 := g4.id; have s4' := g4.size
  have hc24 : Chg [] h2 h4 := g3.chg.nil g4.chg
  have hc : Chg [] h h4 := (g1.chg.nil g2.chg).nil hc24
  have BL : Blk h4 lb ((List.replicate 16 [.pointer none, .int .i64 0]).flatten) := (g1.blk.chg g2.chg (by simp)).chg hc24 (by simp)
  have BM : Blk h4 mb (Nd.row ⟨mb, lb, 16, ⟨⟨#[]⟩, 0⟩⟩) := (show Blk h2 mb (Nd.row ⟨mb, lb, 16, ⟨⟨#[]⟩, 0⟩⟩) from g2.blk).chg hc24 (by simp)
  have BP : MapB h4 mpb [] 0 := (show MapB h3 mpb [] 0 from g3.blk).chg g4.chg (by simp)
  have BR : Blk h4 rb [ptr mb, .map (some mpb)] := g4.blk
  have hfp : blks rb mpb [⟨mb, lb, 16, ⟨⟨#[]⟩, 0⟩⟩] = [rb, mpb, mb, lb] := rfl
  refine And.intro hc (Exists.intro [rb, mpb, mb, lb] (And.intro ⟨rb, mpb, [⟨mb, lb, 16, ⟨⟨#[]⟩, 0⟩⟩], rfl, ?_, rfl⟩ ?_))
  · refine ⟨⟨⟨_, [], rfl, rfl, BR⟩, fun a ha => ?_, fun hh hlt => ?_, by simp⟩, ?_, rfl, ⟨[], 0, BP, by simp [mapOf]⟩, List.Pairwise.nil, List.nodup_nil, ht.chg hc (by simp), ?_⟩
    · simp at ha; subst ha
      exact ⟨BM, ⟨_, BL, by simp⟩, by simp, by simp⟩
    · have hg := rep_get (a := .pointer none) (b := .int .i64 0) 16 hh hlt
      simp only [ons, hlt, if_true]
      exact ⟨⟨0, cell_blk BL hg.1, cell_blk BL hg.2⟩, trivial⟩
    · rw [hfp]; simp; omega
    · rw [hfp]; simp; omega
  · intro b hb
    simp at hb; omega

def encI (i : Int) : List Value := [.int .i64 i]
theorem encI_len (i : Int) : (encI i).length = 1 := rfl

def OfP (h : Heap) (l : List Rank) (u : Value) (h' : Heap) : Prop :=
  Chg [] h h' ∧ if ofErr l = 0 then ∃ v fp, u = .tuple #[v, .int .i64 0] ∧ RS h' v (ofR l) fp ∧ ∀ b ∈ fp, h.size ≤ b else u = .tuple #[.pointer none, .int .i64 (ofErr l)]

theorem ofP_bad {h h' : Heap} {l : List Rank} (hc : Chg [] h h') {e : Int} (he : ofErr l = e) (hn : e ≠ 0) : OfP h l (.tuple #[.pointer none, .int .i64 e]) h' := by
  refine ⟨hc, ?_⟩
  rw [he, if_neg hn]

theorem RS.tab {h : Heap} {v : Value} {S : List Rank} {fp : List Nat} (rs : RS h v S fp) : TabH h := by
  obtain ⟨rb, mpb, N, _, rk, _⟩ := rs
  exact rk.tab

theorem ofm_second {h h1 : Heap} {a : Option Addr} {c : Nat} {l : List Rank} {cv : Value} {cs : List Int} (hv : SL encR h1 (.slice a l.length c) l) (hcv : SL encI h1 cv cs) (hcl : cs.length < 4611686018427387904)
    (hc1 : Chg [] h h1) (ht : TabH h1) (hlen : l.length ≤ 65536) (hsz : l.any (fun x => decide (1048576 < x.name.size)) = false) :
    swp Tryd.prog (.seq (.ops f9r10) (.seq (.seq (.ops f9r11) (.block 2 (.loop f9l22))) (.seq (.ops f9r23) .ret))) (retQ [.t 4, .t 5] (Ret (OfP h l))) (mk [(0, .slice a l.length c), (1, cv)]) [] h1 := by
  have hsm : ∀ x ∈ l, ¬ 1048576 < x.name.size := by
    intro x hx
    have := List.any_eq_false.1 hsz x hx
    simpa using this
  obtain ⟨ca, cc, rfl, hcc⟩ := hcv.form
  refine call_ret (begun_calls ht) ?_
  rintro rv h2 ⟨hc2, fp0, rs0, hfp0⟩
  refine loop_intro (fun k : Nat => [(1, .slice ca cs.length cc), (8, rv), (29, .slice a l.length c), (30, .int .i64 l.length), (31, .int .i64 k)])
    (fun k h' => k ≤ l.length ∧ Chg [] h1 h' ∧ ∃ out fp, RS h' rv out fp ∧ (∀ b ∈ fp, h1.size ≤ b) ∧ out.length ≤ k ∧ ofGo out (l.drop k) = ofGo [] l) (fun k => l.length - k) 0
    ⟨rfl, rfl, rfl, rfl, rfl, trivial⟩ ⟨Nat.zero_le _, hc2, [], fp0, rs0, hfp0, Nat.le_refl _, rfl⟩ ?_
  rintro k h3 ⟨hk, hc3, out, fp, rs, hfp, hol, hgo⟩
  refine And.intro rfl (And.intro (fun hlt => ?_) (fun hlt => ?_))
  · have hlt : k < l.length := by omega
    obtain ⟨b, o, rfl⟩ := hv.addr (by omega)
    have hcs := (hv.ext hc3).cells encR_len (i := k) (x := l[k]) (by simp [hlt])
    rw [List.drop_eq_getElem_cons hlt, ofGo] at hgo
    refine And.intro (by omega) (And.intro (by omega) (Exists.intro (encR l[k]) (And.intro rfl (And.intro hcs ?_))))
    intro b4 h4 g4
    refine Exists.intro _ (And.intro g4.blk (And.intro (by decide) (And.intro rfl (And.intro (ones2 rfl rfl) ?_))))
    intro h5 p5
    have g5 := g4.put p5
    have B5 : Blk h5 b4 (encR l[k]) := p5.blk
    have hc5 := g5.chg
    have rs5 := rs.ext hc5
    have rs5' := rs5
    obtain ⟨rb, mpb, N, rfl, rk, rfl⟩ := rs5
    obtain ⟨hd0, mem0, hN0, hht0, hrb⟩ := rk.rd.r
    obtain ⟨es, cl, hmap, hfits, hel, hl⟩ := rk.look l[k].name
    refine Exists.intro _ (And.intro (cell_blk hrb rfl) ?_)
    refine Exists.intro _ (And.intro (cell_blk B5 rfl) ?_)
    refine And.intro rfl (Exists.intro es (Exists.intro cl (And.intro hmap (And.intro hfits ?_))))
    have hc35 : Chg [] h1 h5 := hc3.nil hc5
    rcases hl with ⟨hno, hm⟩ | ⟨A, m, B, j, rfl, hA, hmn, hm⟩
    · rw [hm]
      have hfn : findR l[k].name out 0 = -1 := findR_none hno
      rw [hfn, if_neg (by decide)] at hgo
      have hse : setErr out l[k] = false := by
        have := hsm l[k] (List.getElem_mem hlt)
        simp [setErr]; omega
      rw [hse, if_neg (by simp)] at hgo
      have hset : setR out l[k] = insR l[k] out := by unfold setR; rw [dropR_none hno]
      rw [hset] at hgo
      have done : ∀ N' h6, RK h6 rb mpb N' (insR l[k] out) → Chg (blks rb mpb N) h5 h6 → (∀ b ∈ blks rb mpb N', b ∈ blks rb mpb N ∨ h5.size ≤ b) →
          k + 1 ≤ l.length ∧ Chg [] h1 h6 ∧ ∃ out fp, RS h6 (ptr rb) out fp ∧ (∀ b ∈ fp, h1.size ≤ b) ∧ out.length ≤ k + 1 ∧ ofGo out (l.drop (k + 1)) = ofGo [] l := by
        intro N' h6 rk6 hc6 hb6
        refine ⟨by omega, hc35.fresh hc6 hfp, _, _, ⟨rb, mpb, N', rfl, rk6, rfl⟩, fun b hb => ?_, by rw [insR_len]; omega, hgo⟩
        rcases hb6 b hb with h | h
        · exact hfp b h
        · have := hc35.size; omega
      refine And.intro rfl (And.intro (fun hcn => ?_) (fun hcn => ?_))
      · have hcn : k < cs.length := by omega
        obtain ⟨cb, co, rfl⟩ := hcv.addr (by omega)
        have hcc5 := (hcv.ext hc35).cells encI_len (i := k) (x := cs[k]) (by simp [hcn])
        refine And.intro (by omega) (And.intro (by omega) (Exists.intro _ (And.intro (hcc5 0 _ rfl) ?_)))
        refine Exists.intro (encR l[k]) (And.intro rfl (And.intro (cells_blk B5) ?_))
        refine call_ret (put_calls rk l[k] cs[k] hno (by omega)) ?_
        rintro _ h6 ⟨N', rk6, hc6, hb6⟩
        refine And.intro rfl (fun z hz => ?_)
        have hz := add_in hz (by omega) (by omega)
        subst hz
        refine And.intro rfl (Exists.intro (k + 1) (And.intro ?_ (And.intro (done N' h6 rk6 hc6 hb6) ?_)))
        · exact ⟨rfl, rfl, rfl, rfl, rfl, trivial⟩
        · omega
      · refine Exists.intro (encR l[k]) (And.intro rfl (And.intro (cells_blk B5) ?_))
        refine call_ret (put_calls rk l[k] 0 hno (by omega)) ?_
        rintro _ h6 ⟨N', rk6, hc6, hb6⟩
        refine And.intro rfl (fun z hz => ?_)
        have hz := add_in hz (by omega) (by omega)
        subst hz
        refine And.intro rfl (Exists.intro (k + 1) (And.intro ?_ (And.intro (done N' h6 rk6 hc6 hb6) ?_)))
        · exact ⟨rfl, rfl, rfl, rfl, rfl, trivial⟩
        · omega
    · rw [hm]
      refine ofP_bad (hc1.nil hc35) ?_ (by decide)
      have hS := rk.there hA
      have hf : 0 ≤ findR l[k].name out 0 := by
        have hnm := rk.names
        rw [hS] at hnm ⊢
        rw [← hmn, findR_mid hnm]; omega
      rw [if_pos hf] at hgo
      unfold ofErr
      rw [if_neg (by omega), hsz, if_neg (by simp), ← hgo]; rfl
  · have hlt : k = l.length := by omega
    subst hlt
    rw [List.drop_length, ofGo] at hgo
    have e0 : ofErr l = 0 := by
      unfold ofErr
      rw [if_neg (by omega), hsz, if_neg (by simp), ← hgo]; rfl
    refine And.intro (hc1.nil hc3) ?_
    rw [if_pos e0]
    have : ofR l = out := by
      unfold ofR
      rw [if_pos e0, ← hgo]; rfl
    rw [this]
    exact ⟨rv, fp, rfl, rs, fun b hb => by have := hfp b hb; have := hc1.size; omega⟩

theorem ofm_calls {h : Heap} {v cv : Value} {l : List Rank} {cs : List Int} (hv : SL encR h v l) (hcv : SL encI h cv cs) (hl : l.length < 4611686018427387904) (hcl : cs.length < 4611686018427387904) (ht : TabH h) :
    CallsH Tryd.prog 9 [v, cv] h (Ret (OfP h l)) := by
  obtain ⟨a, c, rfl, hlc⟩ := hv.form
  refine f9_calls (by simp) ?_
  refine And.intro rfl (And.intro (fun hn => ?_) (fun hn => ?_))
  · exact ofP_bad (Chg.refl h) (e := 3) (by unfold ofErr; rw [if_pos (by omega)]) (by decide)
  · refine loop_intro (fun k : Nat => [(0, .slice a l.length c), (1, cv), (17, .slice a l.length c), (18, .int .i64 l.length), (19, .int .i64 k)]) (fun k h' => k ≤ l.length ∧ Chg [] h h' ∧ (l.take k).any (fun x => decide (1048576 < x.name.size)) = false) (fun k => l.length - k) 0 ⟨rfl, rfl, rfl, rfl, rfl, trivial⟩ ⟨Nat.zero_le _, Chg.refl h, rfl⟩ ?_
    rintro k h1 ⟨hk, hc1, hall⟩
    refine And.intro rfl (And.intro (fun hlt => ?_) (fun hlt => ?_))
    · have hlt : k < l.length := by omega
      obtain ⟨b, o, rfl⟩ := hv.addr (by omega)
      have hcs := (hv.ext hc1).cells encR_len (i := k) (x := l[k]) (by simp [hlt])
      refine And.intro (by omega) (And.intro (by omega) (Exists.intro (encR l[k]) (And.intro rfl (And.intro hcs ?_))))
      intro b4 h4 g4
      refine Exists.intro _ (And.intro g4.blk (And.intro (by decide) (And.intro rfl (And.intro (ones2 rfl rfl) ?_))))
      intro h5 p5
      have g5 := g4.put p5
      have B5 : Blk h5 b4 (encR l[k]) := p5.blk
      have hc5 := hc1.nil g5.chg
      refine Exists.intro _ (And.intro (cell_blk B5 rfl) ?_)
      refine And.intro rfl (And.intro (fun hs => ?_) (fun hs => ?_))
      · refine ofP_bad hc5 (e := 3) ?_ (by decide)
        unfold ofErr
        rw [if_neg (by omega), any_drop hlt (by simp; omega), if_pos rfl]
      · refine And.intro rfl (fun z hz => ?_)
        have hz := add_in hz (by omega) (by omega)
        subst hz
        refine And.intro rfl (Exists.intro (k + 1) (And.intro ?_ (And.intro ?_ ?_)))
        · exact ⟨rfl, rfl, rfl, rfl, rfl, trivial⟩
        · refine ⟨by omega, hc5, ?_⟩
          rw [take_snoc l k hlt, List.any_append, hall]
          simp; omega
        · omega
    · have hlt : k = l.length := by omega
      subst hlt
      rw [List.take_length] at hall
      exact cut_at [(0, .slice a l.length c), (1, cv)] ⟨rfl, rfl, trivial⟩ (ofm_second (hv.ext hc1) (hcv.ext hc1) hcl hc1 (ht.chg hc1 (by simp)) (by omega) hall)

end Go.Proofs.YtlghcmdaijfdlaaDoor
