/-
  Layer 7: taborlaw07.KeysAll.
-/
import Derived.Test.YtaffnlibmkcgiaaGreatKW
namespace Go.Proofs.YtaffnlibmkcgiaaGreat
open Go Go.Sx Go.Proofs.YtaffnlibmkcgiaaGreat.C

theorem sorted_of {m : List KI} {l k : List RX} (hpr : m.map KI.pr = l.map RX.pr) (hk : ofX [] l = some k) : Sorted m (k.map RX.pr) := by
  obtain ⟨h1, h2, _⟩ := ofX_ok (acc := []) List.Pairwise.nil hk
  refine ⟨List.Pairwise.map RX.pr (fun _ _ h => h) h1, fun p => ?_⟩
  rw [hpr, List.mem_map, List.mem_map]
  constructor
  · rintro ⟨x, hx, rfl⟩
    exact ⟨x, by simpa using (h2 x).1 hx, rfl⟩
  · rintro ⟨x, hx, rfl⟩
    exact ⟨x, (h2 x).2 (by simp [hx]), rfl⟩

def mkD (D : Nat) : Deferred := { target := .collected D, args := #[] }

/-- Behind both loops. -/
theorem KAll_rest {h0 h : Heap} {D1 D2 b3 b8 b9 kb sb mb c : Nat} {leave : Int} {m : List KI} {v : Value} {l k : List RX} (hc : Chg [] h0 h) (B3 : Blk h b3 [.int .i64 leave]) (B8 : Blk h b8 [.int .i64 l.length]) (B9 : Blk h b9 [.int .i64 (min (l.length : Int) (max 1 leave))])
    (kr : KR h kb sb mb c m) (hv : SL encX h v l) (g : GX h l) (nv : NVast l) (hpr : m.map KI.pr = l.map RX.pr) (hk : ofX [] l = some k)
    (hD1 : h[D1]? = some (.deferred (some []))) (hD2 : h[D2]? = some (.deferred (some []))) (z1 : h0.size ≤ D1) (z2 : h0.size ≤ D2) (hne : D1 ≠ D2) :
    swp Tryz.prog (.seq (.ops f5r18) .ret) (retQ [.t 4] (Ret fun r h' => r = .bool true ∧ Chg [] h0 h')) (mk [(0, v), (3, ptr b3), (5, ptr kb), (8, ptr b8), (9, ptr b9)]) [mkD D2, mkD D1] h := by
  obtain ⟨a, cc, rfl, hcc⟩ := hv.form
  have hl := nv.len
  refine Exists.intro _ (And.intro (cell_blk B8 rfl) ?_)
  refine And.intro rfl (And.intro (fun _ => ?_) (fun hne => absurd rfl hne))
  refine Exists.intro _ (And.intro (cell_blk B9 rfl) (Exists.intro _ (And.intro (cell_blk B8 rfl) (Exists.intro _ (And.intro (cell_blk B3 rfl) ?_)))))
  refine And.intro rfl (And.intro rfl ?_)
  refine And.intro rfl (And.intro (fun _ => ?_) (fun hne => absurd rfl hne))
  refine call_ret (sorted_calls hv nv) ?_
  rintro r1 h1 ⟨ho1, hb1, hc1⟩
  have e := ofX_eq hk
  rw [← e] at ho1
  obtain ⟨hup, hmem, hkl⟩ := ofX_ok (acc := []) List.Pairwise.nil hk
  have gk : GX h1 k := fun x hx => (g x (by simpa using (hmem x).1 hx)).ext hc1
  refine call_ret (same_calls (kr.ext hc1) ho1.sl gk (sorted_of hpr hk) (by simp at hkl; omega)) ?_
  rintro r2 h2 ⟨rfl, hc2⟩
  refine call_ret known_calls ?_
  rintro r3 h3 ⟨rfl, hc3⟩
  have hc03 : Chg [] h h3 := (hc1.nil hc2).nil hc3
  refine And.intro (get_chg hD2 hc03 (by simp)) (fun h4 p4 => ?_)
  refine And.intro (get_chg (get_chg hD1 hc03 (by simp)) p4.chg (by simp; omega)) (fun h5 p5 => ?_)
  exact And.intro rfl (((hc.nil hc03).fresh p4.chg (by simp; omega)).fresh p5.chg (by simp; omega))

theorem KAll_second {h0 h : Heap} {D1 b1 b3 b8 kb sb mb c : Nat} {leave : Int} {m : List KI} {v : Value} {l k : List RX} (hc : Chg [] h0 h) (B1 : Blk h b1 [ptr kb]) (B3 : Blk h b3 [.int .i64 leave]) (B8 : Blk h b8 [.int .i64 l.length])
    (kr : KR h kb sb mb c m) (hv : SL encX h v l) (g : GX h l) (nv : NVast l) (hpr : m.map KI.pr = l.map RX.pr) (hk : ofX [] l = some k)
    (hD1 : h[D1]? = some (.deferred (some []))) (z1 : h0.size ≤ D1) :
    swp Tryz.prog (.seq (.ops f5r13) (.seq (.seq (.ops f5r14) (.block 2 (.rangeF (.tmp 34) [35, 36] f5a17 f5b17))) (.seq (.ops f5r18) .ret))) (retQ [.t 4] (Ret fun r h' => r = .bool true ∧ Chg [] h0 h'))
      (mk [(0, v), (3, ptr b3), (5, ptr kb), (7, .func (.func 43) #[] #[ptr b1]), (8, ptr b8)]) [mkD D1] h := by
  have hl := nv.len
  have hW := sorted_of hpr hk
  have hkl : k.length = l.length := by
    have := (ofX_ok (acc := []) List.Pairwise.nil hk).2.2
    simpa using this
  have hWl : (k.map RX.pr).length = l.length := by rw [List.length_map, hkl]
  have d1 := get_lt hD1
  have l1 := B1.lt
  have l3 := B3.lt
  have l8 := B8.lt
  have z0 := hc.size
  intro b9 h1 g1
  refine Exists.intro _ (And.intro g1.blk (And.intro (by decide) (And.intro rfl (And.intro (ones1 rfl) ?_))))
  intro h2 p2
  have g2 := g1.put p2
  have hc2 := g2.chg
  have B92 : Blk h2 b9 [.int .i64 0] := p2.blk
  have i9 := g2.id
  have s2 := g2.size
  intro l2 D2 r h3 hD hl3 hsz hold hmark hloop hy
  have hc3 : Chg [] h2 h3 := ⟨by omega, fun k hk _ => hold k hk⟩
  have hcb : Chg [] h h3 := hc2.nil hc3
  have base : ∀ {h'}, Chg [] h h' → Blk h' b1 [ptr kb] ∧ Blk h' b3 [.int .i64 leave] ∧ Blk h' b8 [.int .i64 l.length] ∧ KR h' kb sb mb c m ∧ SL encX h' v l ∧ GX h' l ∧ h'[D1]? = some (.deferred (some [])) := fun hc' =>
    ⟨B1.chg hc' (by simp), B3.chg hc' (by simp), B8.chg hc' (by simp), kr.ext hc', hv.ext hc', g.ext hc', get_chg hD1 hc' (by simp)⟩
  refine (iter_calls hW (fun p k h' => Round h l2 D2 b1 kb r p h' ∧ Blk h' b9 [.int .i64 k] ∧ (k = 0 ∨ (k : Int) < leave))
    (fun h' => LoopB h' l2 r .done (some (.exit 2)) ∧ h'[D2]? = some (.deferred (some [])) ∧ Chg [] h h' ∧ Blk h' b9 [.int .i64 (min (l.length : Int) (max 1 leave))]) (base hcb).1 (kr.ext hcb) (fun p h' hp1 hp2 hc => ?_) (fun p k h' j => ⟨j.1.b1, kr.ext j.1.chg⟩)
    (fun p k h' h'' j hc => ⟨j.1.ext hc, j.2.1.chg hc (by simp), j.2.2⟩) (fun p k h' us hk j tu => ?_)).mono ?_
  · exact ⟨⟨loopB_chg hloop hc (by simp), get_chg hmark hc (by simp), ((base hcb).1).chg hc (by simp), hcb.nil hc, by omega, hp2⟩, (B92.chg hc3 (by simp)).chg hc (by simp), .inl rfl⟩
  · obtain ⟨j, j9, jl⟩ := j
    have hps := j.lt
    have hpn := j.pn
    have hcj := j.chg
    have hll : l2 < h'.size := get_lt j.loop.at_
    have zj := hcj.size
    refine hy h' _ _ j.loop rfl ?_
    refine And.intro j.loop (fun h4 t4 => ?_)
    have C9 : Blk h4 b9 [.int .i64 k] := j9.chg t4.chg (by simp; omega)
    refine Exists.intro _ (And.intro (cell_blk C9 rfl) ?_)
    refine And.intro rfl (fun z hz => ?_)
    rw [hWl] at hk
    have hz := add_in hz (by omega) (by omega)
    subst hz
    refine Exists.intro _ (And.intro C9 (And.intro (by simp) (And.intro rfl (And.intro (ones1 rfl) ?_))))
    intro h5 p5
    have C95 : Blk h5 b9 [.int .i64 ((k : Int) + 1)] := p5.blk
    have L5 : LoopB h5 l2 r .busy none := loopB_chg t4.rec_ p5.chg (by simp; omega)
    have c5 : Chg [l2, b9] h' h5 := t4.chg.trans p5.chg (fun x hx => by simp at hx; simp [hx]) (fun x hx _ => by simp at hx; simp [hx])
    have C35 : Blk h5 b3 [.int .i64 leave] := ((base hcj).2.1).chg c5 (by simp; omega)
    refine Exists.intro _ (And.intro (cell_blk C95 rfl) (Exists.intro _ (And.intro (cell_blk C35 rfl) ?_)))
    have fin : ∀ {h6 : Heap} {st : LoopState} {q : Option Go.Code}, Turn h5 h6 l2 r st q → Chg [l2, b9] h' h6 := fun t => c5.trans t.chg (fun _ hx => hx) (fun x hx _ => by simp at hx; simp [hx])
    refine And.intro rfl (And.intro (fun hge => ?_) (fun hlt => ?_))
    · refine And.intro L5 (fun h6 t6 => ?_)
      have c6 := fin t6
      refine .inr ⟨rfl, t6.rec_, get_chg j.mark c6 (by simp; omega), hcj.fresh c6 (by simp; omega), ?_⟩
      have : min (l.length : Int) (max 1 leave) = (k : Int) + 1 := by
        rcases jl with h0 | h0 <;> omega
      rw [this]
      exact C95.chg t6.chg (by simp; omega)
    · refine And.intro L5 (fun h6 t6 => ?_)
      have c6 := fin t6
      refine .inl ⟨rfl, ⟨⟨t6.rec_, get_chg j.mark c6 (by simp; omega), (j.b1).chg c6 (by simp; omega), hcj.fresh c6 (by simp; omega), hps, by have := c6.size; omega⟩, C95.chg t6.chg (by simp; omega), .inr (by omega)⟩, ?_⟩
      exact c6.old p hpn (by simp; omega)
  · intro e h4 he
    cases e with
    | panicked ch => exact he.elim
    | outgrown => exact he.elim
    | returned u =>
      have go : ∀ {h5 : Heap}, Chg [] h h5 → h5[D2]? = some (.deferred (some [])) → Blk h5 b9 [.int .i64 (min (l.length : Int) (max 1 leave))] →
          swp Tryz.prog (.seq (.ops f5r18) .ret) (retQ [.t 4] (Ret fun r h' => r = .bool true ∧ Chg [] h0 h')) (mk [(0, v), (3, ptr b3), (5, ptr kb), (8, ptr b8), (9, ptr b9)]) [mkD D2, mkD D1] h5 := by
        intro h5 hc5 hd hb9
        obtain ⟨_, q3, q8, qk, qv, qg, qd⟩ := base hc5
        exact KAll_rest (hc.nil hc5) q3 q8 hb9 qk qv qg nv hpr hk qd hd z1 (by omega) (by omega)
      rcases he with ⟨p, j, j9, jl⟩ | ⟨jL, jm, jc, j9⟩
      · rw [hWl] at j9 jl
        have hcj := j.chg
        refine ⟨.ready, none, j.loop, by simp, fun h5 t5 => ?_⟩
        have hc5 : Chg [] h h5 := hcj.fresh t5.chg (by simp; omega)
        have e : min (l.length : Int) (max 1 leave) = (l.length : Int) := by rcases jl with h0 | h0 <;> omega
        exact cut_at [(0, v), (3, ptr b3), (5, ptr kb), (8, ptr b8), (9, ptr b9)] ⟨rfl, rfl, rfl, rfl, rfl, trivial⟩ (go hc5 (get_chg j.mark t5.chg (by simp; omega)) (by rw [e]; exact j9.chg t5.chg (by simp; omega)))
      · refine ⟨.done, some (.exit 2), jL, by simp, fun h5 t5 => ?_⟩
        have hc5 : Chg [] h h5 := jc.fresh t5.chg (by simp; omega)
        exact cut_at [(0, v), (3, ptr b3), (5, ptr kb), (8, ptr b8), (9, ptr b9)] ⟨rfl, rfl, rfl, rfl, rfl, trivial⟩ (go hc5 (get_chg jm t5.chg (by simp; omega)) (j9.chg t5.chg (by simp; omega)))

theorem KeysAll_calls {h : Heap} {v : Value} {l : List RX} (leave : Int) (hv : SL encX h v l) (g : GX h l) (f : XFit l) :
    CallsH Tryz.prog 5 [v, .int .i64 leave] h (Ret fun r h' => r = .bool true ∧ Chg [] h h') := by
  refine f5_calls (by simp) ?_
  intro b3 h1 g1
  have hv1 := hv.ext g1.chg
  have gx1 := g.ext g1.chg
  refine call_ret (vast_calls hv1 (SL.nil (enc := encD)) gx1 f ⟨by simp, by simp⟩) ?_
  rintro _ h2 ⟨⟨b, rfl, hb⟩, hc2⟩
  have hc12 := g1.chg.nil hc2
  cases b with
  | true =>
    refine call_ret known_calls ?_
    rintro _ h3 ⟨rfl, hc3⟩
    exact And.intro rfl (hc12.nil hc3)
  | false =>
    obtain ⟨nv, _⟩ := hb rfl
    have hv2 := hv1.ext hc2
    have gx2 := gx1.ext hc2
    refine call_ret (KOf_calls hv2 gx2 nv) ?_
    rintro r3 h3 ⟨hc3, ho⟩
    have hc13 := hc12.nil hc3
    cases hk : ofX [] l with
    | none =>
      rw [hk] at ho
      subst ho
      refine And.intro rfl (And.intro (fun _ => ?_) (fun hne => absurd (by decide) hne))
      refine call_ret known_calls ?_
      rintro _ h4 ⟨rfl, hc4⟩
      exact And.intro rfl (hc13.nil hc4)
    | some k =>
      rw [hk] at ho
      obtain ⟨kb, sb, mb, c, m, rfl, kr, hpr, hmb⟩ := ho
      have hl := nv.len
      have hW := sorted_of hpr hk
      have hkl : k.length = l.length := by
        have := (ofX_ok (acc := []) List.Pairwise.nil hk).2.2
        simpa using this
      have hWl : (k.map RX.pr).length = l.length := by rw [List.length_map, hkl]
      have z1 := g1.size
      have i1 := g1.id
      have B33 : Blk h3 b3 [.int .i64 leave] := ((show Blk h1 b3 [.int .i64 leave] from g1.blk).chg hc2 (by simp)).chg hc3 (by simp)
      refine And.intro rfl (And.intro (fun hne => absurd rfl hne) (fun _ => ?_))
      refine call_ret (All_calls (h := h3)) ?_
      rintro _ h4 ⟨b1, rfl, g4⟩
      intro b8 h5 g5
      refine Exists.intro _ (And.intro g5.blk (And.intro (by decide) (And.intro rfl (And.intro (ones1 rfl) ?_))))
      intro h6 p6
      have g6 := g5.put p6
      have i8 := g6.id
      have z8 := g6.size
      have i4 := g4.id
      have z4 := g4.size
      have hc36 : Chg [] h3 h6 := g4.chg.nil g6.chg
      have B16 : Blk h6 b1 [ptr kb] := (show Blk h4 b1 [ptr kb] from g4.blk).chg g6.chg (by simp)
      have B86 : Blk h6 b8 [.int .i64 0] := p6.blk
      have z13 := hc13.size
      intro l2 D1 r h7 hD hl7 hsz hold hmark hloop hy
      have hc7 : Chg [] h6 h7 := ⟨by omega, fun k hk _ => hold k hk⟩
      have hc37 := hc36.nil hc7
      refine (iter_calls hW (fun p k h' => Round h3 l2 D1 b1 kb r p h' ∧ Blk h' b8 [.int .i64 k]) (fun _ => False) (B16.chg hc7 (by simp)) (kr.ext hc37) (fun p h' hp1 hp2 hc => ?_) (fun p k h' j => ⟨j.1.b1, kr.ext j.1.chg⟩)
        (fun p k h' h'' j hc => ⟨j.1.ext hc, j.2.chg hc (by simp)⟩) (fun p k h' us hk j tu => ?_)).mono ?_
      · exact ⟨⟨loopB_chg hloop hc (by simp), get_chg hmark hc (by simp), (B16.chg hc7 (by simp)).chg hc (by simp), hc37.nil hc, by omega, hp2⟩, (B86.chg hc7 (by simp)).chg hc (by simp)⟩
      · obtain ⟨j, j8⟩ := j
        have hps := j.lt
        have hpn := j.pn
        have hcj := j.chg
        have hll : l2 < h'.size := get_lt j.loop.at_
        refine hy h' _ _ j.loop rfl ?_
        refine And.intro j.loop (fun h8 t8 => ?_)
        have C8 : Blk h8 b8 [.int .i64 k] := j8.chg t8.chg (by simp; omega)
        refine Exists.intro _ (And.intro (cell_blk C8 rfl) ?_)
        refine And.intro rfl (fun z hz => ?_)
        rw [hWl] at hk
        have hz := add_in hz (by omega) (by omega)
        subst hz
        refine Exists.intro _ (And.intro C8 (And.intro (by simp) (And.intro rfl (And.intro (ones1 rfl) ?_))))
        intro h9 p9
        have L9 : LoopB h9 l2 r .busy none := loopB_chg t8.rec_ p9.chg (by simp; omega)
        refine And.intro L9 (fun h10 t10 => ?_)
        have c9 : Chg [l2, b8] h' h9 := t8.chg.trans p9.chg (fun x hx => by simp at hx; simp [hx]) (fun x hx _ => by simp at hx; simp [hx])
        have c10 : Chg [l2, b8] h' h10 := c9.trans t10.chg (fun _ hx => hx) (fun x hx _ => by simp at hx; simp [hx])
        have C10 : Blk h10 b8 [.int .i64 ((k : Int) + 1)] := (show Blk h9 b8 _ from p9.blk).chg t10.chg (by simp; omega)
        refine .inl ⟨rfl, ⟨⟨t10.rec_, get_chg j.mark c10 (by simp; omega), (j.b1).chg c10 (by simp; omega), hcj.fresh c10 (by simp; omega), hps, by have := c10.size; omega⟩, C10⟩, ?_⟩
        exact c10.old p hpn (by simp; omega)
      · intro e h8 he
        cases e with
        | panicked ch => exact he.elim
        | outgrown => exact he.elim
        | returned u =>
          rcases he with ⟨p, j, j8⟩ | hF
          rotate_left
          · exact hF.elim
          rw [hWl] at j8
          have hcj := j.chg
          refine ⟨.ready, none, j.loop, by simp, fun h9 t9 => ?_⟩
          have hc39 : Chg [] h3 h9 := hcj.fresh t9.chg (by simp; omega)
          exact cut_at [(0, v), (3, ptr b3), (5, ptr kb), (7, .func (.func 43) #[] #[ptr b1]), (8, ptr b8)] ⟨rfl, rfl, rfl, rfl, rfl, trivial⟩
            (KAll_second (hc13.nil hc39) (j.b1.chg t9.chg (by simp; omega)) (B33.chg hc39 (by simp)) (j8.chg t9.chg (by simp; omega)) (kr.ext hc39) ((hv2.ext hc3).ext hc39) ((gx2.ext hc3).ext hc39) nv hpr hk (get_chg j.mark t9.chg (by simp; omega)) (by omega))

end Go.Proofs.YtaffnlibmkcgiaaGreat
