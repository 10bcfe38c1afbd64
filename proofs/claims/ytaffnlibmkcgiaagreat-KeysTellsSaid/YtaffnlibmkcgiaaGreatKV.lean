/-
  Layer 7: has a keyspace just these things (taborlaw07.same).
-/
import Derived.Test.YtaffnlibmkcgiaaGreatKU
namespace Go.Proofs.YtaffnlibmkcgiaaGreat
open Go Go.Sx Go.Proofs.YtaffnlibmkcgiaaGreat.C

theorem loopB_chg {S : List Nat} {h h' : Heap} {l : Nat} {r : Loop} {st : LoopState} {p : Option Go.Code} (hl : LoopB h l r st p) (hc : Chg S h h') (hn : l ∉ S) : LoopB h' l r st p := ⟨get_chg hl.at_ hc hn⟩

/-- What holds between two rounds. -/
structure Round (h0 : Heap) (l D b1 kb : Nat) (r : Loop) (p : Nat) (h : Heap) : Prop where
  loop : LoopB h l r .ready none
  mark : h[D]? = some (.deferred (some []))
  b1 : Blk h b1 [ptr kb]
  chg : Chg [] h0 h
  lt : l < p
  pn : p < h.size

theorem Round.ext {h0 h h' : Heap} {l D b1 kb : Nat} {r : Loop} {p : Nat} (x : Round h0 l D b1 kb r p h) (hc : Chg [] h h') : Round h0 l D b1 kb r p h' :=
  ⟨loopB_chg x.loop hc (by simp), get_chg x.mark hc (by simp), x.b1.chg hc (by simp), x.chg.nil hc, x.lt, Nat.lt_of_lt_of_le x.pn hc.size⟩

theorem getPr {w : List RX} {k : Nat} (hk : k < (w.map RX.pr).length) (hk' : k < w.length) : (w.map RX.pr)[k] = (w[k].key, w[k].thing) := by
  rw [List.getElem_map]; rfl

theorem same_calls {h : Heap} {kb sb mb c : Nat} {m : List KI} {v : Value} {w : List RX} (kr : KR h kb sb mb c m) (hv : SL encX h v w) (g : GX h w) (hW : Sorted m (w.map RX.pr)) (hl : w.length ≤ 65536) :
    CallsH Tryz.prog 14 [ptr kb, v] h (Ret fun r h' => r = .bool true ∧ Chg [] h h') := by
  have hlens : ∀ x ∈ w, Lens x.thing := by
    intro x hx
    obtain ⟨i, hi, hip⟩ := List.mem_map.1 ((hW.mem x.pr).1 (List.mem_map_of_mem hx))
    have : i.thing = x.thing := congrArg Prod.snd hip
    rw [← this]; exact (kr.here i hi).2.2
  obtain ⟨a, cc, rfl, hcc⟩ := hv.form
  refine f14_calls (by simp) ?_
  intro b3 h1 g1
  intro b4 h2 g2
  intro b5 h3 g3
  refine Exists.intro _ (And.intro g3.blk (And.intro (by decide) (And.intro rfl (And.intro (ones1 rfl) ?_))))
  intro h4 p4
  have g4 := g3.put p4
  have hc14 : Chg [] h1 h4 := g2.chg.nil g4.chg
  have hc4 : Chg [] h h4 := g1.chg.nil hc14
  refine call_ret (All_calls (h := h4)) ?_
  rintro _ h5 ⟨_, rfl, g5⟩
  refine call_ret (All_calls (h := h5)) ?_
  rintro _ h6 ⟨b1, rfl, g6⟩
  have hc46 : Chg [] h4 h6 := g5.chg.nil g6.chg
  have hc6 : Chg [] h h6 := hc4.nil hc46
  have B3 : Blk h6 b3 [.slice a w.length cc] := ((show Blk h1 b3 [.slice a w.length cc] from g1.blk).chg hc14 (by simp)).chg hc46 (by simp)
  have B4 : Blk h6 b4 [.bool false] := ((show Blk h2 b4 [.bool false] from g2.blk).chg g4.chg (by simp)).chg hc46 (by simp)
  have B5 : Blk h6 b5 [.int .i64 0] := (show Blk h4 b5 [.int .i64 0] from p4.blk).chg hc46 (by simp)
  have i1 := g1.id; have i2 := g2.id; have i3 := g4.id; have i6 := g6.id
  have z1 := g1.size; have z2 := g2.size; have z4 := g4.size; have z5 := g5.size; have z6 := g6.size
  intro l D r h7 hD hl7 hsz hold hmark hloop hy
  have hc7 : Chg [] h6 h7 := ⟨by omega, fun k hk _ => hold k hk⟩
  have hc07 := hc6.nil hc7
  have B37 := B3.chg hc7 (by simp)
  have B47 := B4.chg hc7 (by simp)
  have B57 := B5.chg hc7 (by simp)
  have B17 : Blk h7 b1 [ptr kb] := (show Blk h6 b1 [ptr kb] from g6.blk).chg hc7 (by simp)
  refine (iter_calls hW (fun p k h' => Round h l D b1 kb r p h' ∧ Blk h' b3 [.slice a w.length cc] ∧ Blk h' b4 [.bool false] ∧ Blk h' b5 [.int .i64 k]) (fun _ => False) B17 (kr.ext hc07) (fun p h' hp1 hp2 hc => ?_) (fun p k h' j => ⟨j.1.b1, kr.ext j.1.chg⟩)
    (fun p k h' h'' j hc => ⟨j.1.ext hc, j.2.1.chg hc (by simp), j.2.2.1.chg hc (by simp), j.2.2.2.chg hc (by simp)⟩) (fun p k h' us hk j tu => ?_)).mono ?_
  · have : Round h l D b1 kb r p h' := ⟨loopB_chg hloop hc (by simp), get_chg hmark hc (by simp), B17.chg hc (by simp), hc07.nil hc, by omega, hp2⟩
    exact ⟨this, B37.chg hc (by simp), B47.chg hc (by simp), B57.chg hc (by simp)⟩
  · obtain ⟨j, j3, j4, j5⟩ := j
    have hkw : k < w.length := by simpa using hk
    rw [getPr hk hkw] at tu ⊢
    have hv' := hv.ext j.chg
    have gx' := g.ext j.chg
    refine hy h' _ _ j.loop rfl ?_
    intro b7 h8 g8
    refine Exists.intro _ (And.intro g8.blk (And.intro (by decide) (And.intro tu.len (And.intro (thing_one tu) ?_))))
    intro h9 p9
    have g9 := g8.put p9
    have c9 := g9.chg
    have B7 : Blk h9 b7 us := by
      have h8 : Blk h9 b7 (splice zeroV 0 us) := p9.blk
      rw [seven rfl tu.len] at h8
      exact h8
    refine And.intro (loopB_chg j.loop c9 (by simp)) (fun h10 t10 => ?_)
    have hll : l < h'.size := get_lt j.loop.at_
    have i7 := g9.id
    have z9 := g9.size
    have hps := j.lt
    have c10 : Chg [l] h' h10 := (c9.mono (by simp)).trans t10.chg (fun _ hk => hk) (fun _ hk _ => hk)
    have c010 : Chg [] h h10 := j.chg.fresh c10 (by simp; omega)
    have C3 := j3.chg c10 (by simp; omega)
    have C5 := j5.chg c10 (by simp; omega)
    have C7 : Blk h10 b7 us := B7.chg t10.chg (by simp; omega)
    have tu10 : TH h10 us w[k].thing := (tu.ext c9).ch ⟨fun b l' hb => ?_, fun b o v' hc => ?_⟩
    rotate_left
    · have : b ≠ l := by
        rintro rfl
        obtain ⟨e, he⟩ := hb
        have := (loopB_chg j.loop c9 (by simp)).at_
        rw [he] at this; cases this
      obtain ⟨e, he⟩ := hb
      exact ⟨e, by rw [t10.old b this]; exact he⟩
    · have : b ≠ l := by
        rintro rfl
        have := (loopB_chg j.loop c9 (by simp)).at_
        unfold Sx.cell at hc
        rw [this] at hc; cases hc
      unfold Sx.cell at hc ⊢
      rw [t10.old b this]; exact hc
    have hv10 := hv.ext c010
    have hx10 := (g.ext c010) w[k] (List.getElem_mem hkw)
    obtain ⟨b, o, rfl⟩ := hv10.addr (by omega)
    have hcs := hv10.cells encX_len (i := k) (x := w[k]) (by simp [hkw])
    refine Exists.intro _ (And.intro (cell_blk C5 rfl) (Exists.intro _ (And.intro (cell_blk C3 rfl) ?_)))
    refine And.intro rfl (And.intro (fun hge => absurd hge (by omega)) (fun _ => ?_))
    refine Exists.intro _ (And.intro (cell_blk C3 rfl) (Exists.intro _ (And.intro (cell_blk C5 rfl) ?_)))
    refine And.intro (by omega) (And.intro (by omega) (Exists.intro _ (And.intro (hcs 0 _ rfl) ?_)))
    refine And.intro (fun hne => absurd rfl hne) (fun _ => ?_)
    refine Exists.intro us (And.intro tu10.len (And.intro (cells_blk C7) ?_))
    refine Exists.intro _ (And.intro (cell_blk C3 rfl) (Exists.intro _ (And.intro (cell_blk C5 rfl) ?_)))
    refine And.intro (by omega) (And.intro (by omega) (Exists.intro w[k].vs (And.intro w[k].len (And.intro (cells_vs hcs) ?_))))
    have hfk := (hlens w[k] (List.getElem_mem hkw)).fits
    refine call_ret (RSame_calls tu10 hx10 hfk hfk) ?_
    rintro r11 h11 ⟨hr11, c11⟩
    rw [decide_eq_true rfl] at hr11
    subst hr11
    refine Exists.intro _ (And.intro (cell_blk (C5.chg c11 (by simp)) rfl) ?_)
    refine And.intro rfl (fun z hz => ?_)
    have hz := add_in hz (by omega) (by omega)
    subst hz
    refine Exists.intro _ (And.intro (C5.chg c11 (by simp)) (And.intro (by simp) (And.intro rfl (And.intro (ones1 rfl) ?_))))
    intro h12 p12
    have L10 := t10.rec_
    have L12 : LoopB h12 l r .busy none := loopB_chg (loopB_chg L10 c11 (by simp)) p12.chg (by simp; omega)
    refine And.intro L12 (fun h13 t13 => ?_)
    have zc := c11.size
    have z10 := c10.size
    have hp' : ∀ q, q < h'.size → q ≠ l → q ≠ b5 → h13[q]? = h'[q]? := by
      intro q hq hl' hb'
      rw [t13.old q hl', p12.old q hb', c11.old q (by omega) (by simp), c10.old q hq (by simpa using hl')]
    have zl : l < h9.size := by omega
    have hpn := j.pn
    have hbl := hc07.size
    have cU : Chg [l, b5] h' h13 := ⟨by have := t13.size; have := p12.size; omega, fun q hq hn => by
      simp only [List.mem_cons, List.not_mem_nil, or_false, not_or] at hn
      exact hp' q hq hn.1 hn.2⟩
    have B13 : Blk h13 b5 [.int .i64 ((k : Int) + 1)] := (show Blk h12 b5 _ from p12.blk).chg t13.chg (by simp; omega)
    refine .inl ⟨rfl, ⟨⟨t13.rec_, ?_, j.b1.chg cU (by simp; omega), j.chg.fresh cU (by simp; omega), hps, by have := cU.size; omega⟩, j3.chg cU (by simp; omega), j4.chg cU (by simp; omega), B13⟩, hp' p hpn (by omega) (by omega)⟩
    rw [hp' D (by omega) (by omega) (by omega)]; exact j.mark
  · intro e h8 he
    cases e with
    | panicked ch => exact he.elim
    | outgrown => exact he.elim
    | returned u =>
      obtain ⟨p, j, j3, j4, j5⟩ | hF := he
      rotate_left
      · exact hF.elim
      rw [List.length_map] at j5
      have hll : l < h8.size := get_lt j.loop.at_
      refine ⟨.ready, none, j.loop, by simp, fun h9 t9 => ?_⟩
      refine Exists.intro _ (And.intro (cell_blk (j5.chg t9.chg (by simp; omega)) rfl) ?_)
      refine Exists.intro _ (And.intro (cell_blk (j3.chg t9.chg (by simp; omega)) rfl) ?_)
      refine And.intro rfl (And.intro (fun _ => ?_) (fun hne => absurd rfl hne))
      refine Exists.intro _ (And.intro (j4.chg t9.chg (by simp; omega)) (And.intro (by decide) (And.intro rfl (And.intro (ones1 rfl) ?_))))
      intro h10 p10
      have c810 : Chg [l, b4] h8 h10 := t9.chg.trans p10.chg (fun x hx => by simp at hx; simp [hx]) (fun x hx _ => by simp at hx; simp [hx])
      refine And.intro (get_chg j.mark c810 (by simp; omega)) (fun h11 p11 => ?_)
      have B11 : Blk h11 b4 [.bool true] := (show Blk h10 b4 [.bool true] from p10.blk).chg p11.chg (by simp; omega)
      refine Exists.intro _ (And.intro (cell_blk B11 rfl) ?_)
      exact And.intro rfl ((j.chg.fresh c810 (by simp; omega)).fresh p11.chg (by simp; omega))

end Go.Proofs.YtaffnlibmkcgiaaGreat
