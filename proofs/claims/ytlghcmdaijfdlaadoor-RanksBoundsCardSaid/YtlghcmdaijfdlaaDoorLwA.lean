/-
  taborlaw05.all.
-/
import Derived.Test.YtlghcmdaijfdlaaDoorRkP
namespace Go.Proofs.YtlghcmdaijfdlaaDoor
open Go Go.Sx Go.Proofs.YtlghcmdaijfdlaaDoor.C

theorem LoopB.chg {S : List Nat} {h h' : Heap} {l : Nat} {r : Loop} {st : LoopState} {p : Option Go.Code} (hl : LoopB h l r st p) (hc : Chg S h h') (hn : l ∉ S) : LoopB h' l r st p := ⟨get_chg hl.at_ hc hn⟩

/-- What holds after so many members gone over. -/
structure AllJ (h0 : Heap) (l D b3 b4 b5 : Nat) (r : Loop) (sv : Value) (S : List Rank) (k : Nat) (h : Heap) : Prop where
  loop : LoopB h l r .ready none
  mark : h[D]? = some (.deferred (some []))
  b3 : Blk h b3 [sv]
  sl : SL encR h sv S
  out : ∃ ov, Blk h b4 [ov] ∧ OL encR 2 h ov (S.take k) ∧ ∀ b ∈ vblk ov, l < b
  fine : Blk h b5 [.bool true]
  chg : Chg [] h0 h

/-- What All gives: what it goes over. -/
def AllM (S : List Rank) (h : Heap) (u : Value) (h' : Heap) : Prop :=
  ∃ b3 sv, u = .func (.func 43) #[] #[ptr b3] ∧ h.size ≤ b3 ∧ Blk h' b3 [sv] ∧ SL encR h' sv S ∧ (∀ b ∈ vblk sv, h.size ≤ b ∧ b < h'.size) ∧ Chg [] h h'

theorem all_gen {h : Heap} {v : Value} {S : List Rank} (hS : S.length ≤ 65536) (hm : ∀ h1, Chg [] h h1 → CallsH Tryd.prog 40 [v] h1 (Ret (AllM S h1))) :
    CallsH Tryd.prog 25 [v] h (Ret fun u h' => ∃ ov, u = .tuple #[ov, .bool true] ∧ OL encR 2 h' ov S ∧ (∀ b ∈ vblk ov, h.size ≤ b) ∧ Chg [] h h') := by
  refine f25_calls (by simp) ?_
  intro b4 h1 g1
  intro b5 h2 g2
  refine Exists.intro _ (And.intro g2.blk (And.intro (by decide) (And.intro rfl (And.intro (ones1 rfl) ?_))))
  intro h3 p3
  have g3 := g2.put p3
  have hc3 : Chg [] h h3 := g1.chg.nil g3.chg
  refine call_ret (hm h3 hc3) ?_
  rintro _ h4 ⟨_, _, rfl, _, _, _, _, hc4⟩
  refine call_ret (hm h4 (hc3.nil hc4)) ?_
  rintro _ h5 ⟨b3, sv, rfl, hb3, B3, hsv, hbsv, hc5⟩
  have hc05 : Chg [] h h5 := (hc3.nil hc4).nil hc5
  have hc35 : Chg [] h3 h5 := hc4.nil hc5
  have B4 : Blk h5 b4 [.slice none 0 0] := ((show Blk h1 b4 [.slice none 0 0] from g1.blk).chg g3.chg (by simp)).chg hc35 (by simp)
  have B5 : Blk h5 b5 [.bool true] := (show Blk h3 b5 [.bool true] from p3.blk).chg hc35 (by simp)
  have hsl5 : ∀ b ∈ vblk sv, b < h5.size := by
    exact fun b hb => (hbsv b hb).2
  intro l D r h6 hD hl6 hsz hold hmark hloop hy
  have hc6 : Chg [] h5 h6 := ⟨by omega, fun k hk _ => hold k hk⟩
  have J0 : AllJ h l D b3 b4 b5 r sv S 0 h6 := ⟨hloop, hmark, B3.chg hc6 (by simp), hsv.ext hc6, ⟨_, B4.chg hc6 (by simp), OL.nil, by simp [vblk, ablk]⟩, B5.chg hc6 (by simp), hc05.nil hc6⟩
  have z4 := B4.lt; have z5 := B5.lt; have z3 := B3.lt
  refine (iter_calls (AllJ h l D b3 b4 b5 r sv S) J0 (by omega) (fun k h' j => ⟨j.b3, j.sl⟩) (fun k h' h'' j hc => ?_) (fun k h' hk j => ?_)).mono ?_
  · obtain ⟨ov, o1, o2, o3⟩ := j.out
    exact ⟨LoopB.chg j.loop hc (by simp), get_chg j.mark hc (by simp), j.b3.chg hc (by simp), j.sl.ext hc, ⟨ov, o1.chg hc (by simp), o2.ext hc, o3⟩, j.fine.chg hc (by simp), j.chg.nil hc⟩
  · refine hy h' _ _ j.loop rfl ?_
    obtain ⟨ov, o1, o2, o3⟩ := j.out
    intro b7 h8 g8
    refine Exists.intro _ (And.intro g8.blk (And.intro (by decide) (And.intro rfl (And.intro (ones2 rfl rfl) ?_))))
    intro h9 p9
    have g9 := g8.put p9
    have c9 := g9.chg
    have B7 : Blk h9 b7 (encR S[k]) := p9.blk
    refine And.intro (LoopB.chg j.loop c9 (by simp)) (fun h10 t10 => ?_)
    have c10 : Chg [l] h' h10 := (c9.mono (by simp)).trans t10.chg (fun _ hk => hk) (fun _ hk _ => hk)
    have hszl := c9.size
    have hll : l < h'.size := get_lt j.loop.at_
    have hb7 := g8.id
    have nb4 : b4 ≠ l := by omega
    have nb5 : b5 ≠ l := by omega
    have F10 : Blk h10 b5 [.bool true] := j.fine.chg c10 (by simp; exact nb5)
    have O10 : Blk h10 b4 [ov] := o1.chg c10 (by simp; exact nb4)
    have ho10 : OL encR 2 h10 ov (S.take k) := o2.chg c10 (fun b hb => by have := o3 b hb; simp; omega)
    have B10 : Blk h10 b7 (encR S[k]) := B7.chg t10.chg (by simp; omega)
    obtain ⟨oa, oc, rfl, hoc⟩ := ho10.sl.form
    have hkl : (S.take k).length = k := by simp; omega
    refine Exists.intro _ (And.intro (cell_blk F10 rfl) ?_)
    refine Exists.intro _ (And.intro (cell_blk O10 rfl) ?_)
    refine And.intro rfl (And.intro (fun _ => ?_) (fun hne => absurd (by rw [hkl]) hne))
    refine Exists.intro _ (And.intro F10 (And.intro (by decide) (And.intro rfl (And.intro (ones1 rfl) ?_))))
    intro h11 p11
    have n45 : b4 ≠ b5 := by have := g1.id; have := g2.id; have := g1.size; omega
    have O11 : Blk h11 b4 [.slice oa (S.take k).length oc] := O10.chg p11.chg (by simp; exact n45)
    have B11 : Blk h11 b7 (encR S[k]) := B10.chg p11.chg (by simp; omega)
    have ho11 := ho10.chg p11.chg (fun b hb => by have := o3 b hb; simp; omega)
    refine Exists.intro _ (And.intro (cell_blk O11 rfl) ?_)
    refine Exists.intro (encR S[k]) (And.intro rfl (And.intro (cells_blk B11) ?_))
    intro b12 h12 g12
    refine app_own encR_len encR_one rfl (ho11.ext g12.chg) (SL.one encR_len g12.blk) (by simp; omega) ?_
    intro v' h13 ho13 hc13 hbl13
    have hoa : ∀ b ∈ ablk oa, l < b := o3
    have c13 : Chg (ablk oa) h11 h13 := (g12.chg.mono (by simp)).trans hc13 (fun _ hk => hk) (fun _ hk _ => hk)
    have O13 : Blk h13 b4 [.slice oa (S.take k).length oc] := O11.chg c13 (fun hb => by have := hoa _ hb; omega)
    obtain ⟨va, vc, rfl, hvc⟩ := ho13.sl.form
    have htk : S.take k ++ [S[k]] = S.take (k + 1) := (take_snoc S k hk).symm
    have hsz9 : l < h9.size := by omega
    have c1113 : l < h11.size := by have := t10.size; have := p11.size; omega
    refine Exists.intro _ (And.intro O13 (And.intro (by simp) (And.intro rfl (And.intro (ones1 rfl) ?_))))
    intro h14 p14
    -- what is old is as it was, but for b4, b5 and the loop's block
    have keep : ∀ b, b < l → b ≠ b4 → b ≠ b5 → h14[b]? = h'[b]? := by
      intro b hb n4 n5
      rw [p14.old b n4, c13.old b (by omega) (fun hb' => by have := hoa _ hb'; omega), p11.old b n5, t10.old b (by omega), c9.old b (by omega) (by simp)]
    have L14 : LoopB h14 l r .busy none := by
      have L10 := t10.rec_
      have L11 := LoopB.chg L10 p11.chg (by simp; omega)
      have L13 := LoopB.chg L11 c13 (fun hb => by have := hoa _ hb; omega)
      exact LoopB.chg L13 p14.chg (by simp; omega)
    refine And.intro L14 (fun h15 t15 => And.intro rfl ?_)
    have keep15 : ∀ b, b < l → b ≠ b4 → b ≠ b5 → h15[b]? = h'[b]? := fun b hb n4 n5 => by rw [t15.old b (by omega), keep b hb n4 n5]
    have hhs : h.size ≤ b4 := by have := g1.id; omega
    have hhs5 : h.size ≤ b5 := by have := g2.id; have := g1.size; omega
    have n35 : b3 ≠ b4 ∧ b3 ≠ b5 ∧ b3 < l ∧ D < l ∧ D ≠ b4 ∧ D ≠ b5 := by
      have := g1.id; have := g2.id; have := g1.size; have := g3.size; have := hc4.size
      refine ⟨?_, ?_, ?_, ?_, ?_, ?_⟩ <;> omega
    have F15 : Blk h15 b5 [.bool true] := by
      have F11 : Blk h11 b5 [.bool true] := p11.blk
      exact ((F11.chg c13 (fun hb => by have := hoa _ hb; omega)).chg p14.chg (by simp; omega)).chg t15.chg (by simp; omega)
    have O15 : Blk h15 b4 [.slice va (S.take k ++ [S[k]]).length vc] := (show Blk h14 b4 _ from p14.blk).chg t15.chg (by simp; omega)
    have hvb : ∀ b ∈ vblk (.slice va (S.take k ++ [S[k]]).length vc), l < b := fun b hb => by
      rcases hbl13 b hb with h | h
      · exact hoa b h
      · have := g12.size; omega
    have ho15 := (ho13.chg p14.chg (fun b hb => by have := hvb b hb; simp; omega)).chg t15.chg (fun b hb => by have := hvb b hb; simp; omega)
    have cU : Chg (l :: b4 :: b5 :: ablk oa) h' h15 :=
      ((((c10.trans p11.chg (U := l :: b4 :: b5 :: ablk oa) (fun x hx => by simp at hx; simp [hx]) (fun x hx _ => by simp at hx; simp [hx])).trans c13 (fun x hx => hx) (fun x hx _ => by simp [hx])).trans p14.chg (fun x hx => hx) (fun x hx _ => by simp at hx; simp [hx])).trans t15.chg (fun x hx => hx) (fun x hx _ => by simp at hx; simp [hx]))
    have S15 : SL encR h15 sv S := j.sl.chg cU fun b hb => by
      have q1 := hbsv b hb; have := g1.id; have := g2.id; have := g1.size; have := g3.size; have := hc4.size
      simp only [List.mem_cons, not_or]
      exact ⟨by omega, by omega, by omega, fun h => by have := hoa b h; omega⟩
    refine ⟨t15.rec_, by rw [keep15 D n35.2.2.2.1 n35.2.2.2.2.1 n35.2.2.2.2.2]; exact j.mark, ?_, S15, ⟨_, O15, by rw [← htk]; exact ho15, hvb⟩, F15, ?_⟩
    · obtain ⟨e, he⟩ := j.b3
      exact ⟨e, by rw [keep15 b3 n35.2.2.1 n35.1 n35.2.1]; exact he⟩
    · refine j.chg.fresh cU fun x hx => ?_
      simp only [List.mem_cons] at hx
      have := hc05.size
      rcases hx with rfl | rfl | rfl | hx
      · omega
      · exact hhs
      · exact hhs5
      · have := hoa x hx; omega
  · intro e h7 he
    cases e with
    | panicked ch => exact he.elim
    | outgrown => exact he.elim
    | returned u =>
      have j : AllJ h l D b3 b4 b5 r sv S S.length h7 := he
      obtain ⟨ov, o1, o2, o3⟩ := j.out
      rw [List.take_length] at o2
      refine ⟨.ready, none, j.loop, by simp, fun h8 t8 => ?_⟩
      refine Exists.intro _ (And.intro (cell_blk (o1.chg t8.chg (by simp; omega)) rfl) ?_)
      refine Exists.intro _ (And.intro (cell_blk (j.fine.chg t8.chg (by simp; omega)) rfl) ?_)
      refine And.intro (get_chg j.mark t8.chg (by simp; omega)) (fun h9 p9 => ?_)
      have z := hc05.size
      refine Exists.intro ov (And.intro rfl (And.intro ?_ (And.intro ?_ ?_)))
      · exact (o2.chg t8.chg (fun b hb => by have := o3 b hb; simp; omega)).chg p9.chg (fun b hb => by have := o3 b hb; simp; omega)
      · intro b hb; have := o3 b hb; omega
      · exact (j.chg.fresh t8.chg (by simp; omega)).fresh p9.chg (by simp; omega)

theorem all_calls {h : Heap} {v : Value} {S : List Rank} {fp : List Nat} (rs : RS h v S fp) :
    CallsH Tryd.prog 25 [v] h (Ret fun u h' => ∃ ov, u = .tuple #[ov, .bool true] ∧ OL encR 2 h' ov S ∧ (∀ b ∈ vblk ov, h.size ≤ b) ∧ Chg [] h h') := by
  have hS : S.length ≤ 65536 := by
    obtain ⟨rb, mpb, N, rfl, rk, rfl⟩ := rs
    have := rk.len; have := rk.rd.len; omega
  exact all_gen hS fun h1 hc => allm_calls (rs.ext hc)

end Go.Proofs.YtlghcmdaijfdlaaDoor
