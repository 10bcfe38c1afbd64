/-
  Layer 7: a keyspace of things (keys.Of).
-/
import Derived.Test.YtigolfakcblnjaaGreatKR
namespace Go.Proofs.YtigolfakcblnjaaGreat
open Go Go.Sx Go.Proofs.YtigolfakcblnjaaGreat.C

/-- All cells are as they were; maps may have turned. -/
structure CH (h h' : Heap) : Prop where
  blk : ∀ b l, Blk h b l → Blk h' b l
  cell : ∀ b o v, cell h b o = some v → cell h' b o = some v

theorem ch_chg {h h' : Heap} (hc : Chg [] h h') : CH h h' := ⟨fun _ _ hb => hb.chg hc (by simp), fun _ _ _ hb => cell_chg hb hc (by simp)⟩
theorem CH.trans {a b c : Heap} (x : CH a b) (y : CH b c) : CH a c := ⟨fun _ _ hb => y.blk _ _ (x.blk _ _ hb), fun _ _ _ hb => y.cell _ _ _ (x.cell _ _ _ hb)⟩

theorem ne_map {h : Heap} {b mb c : Nat} {l : List Value} {es : List MapEntry} (hb : Blk h b l) (hm : MapB h mb es c) : b ≠ mb := by
  rintro rfl
  obtain ⟨e, he⟩ := hb
  have hm : h[b]? = _ := hm
  rw [he] at hm; cases hm

theorem ch_putO {h h' : Heap} {mb c : Nat} {es : List MapEntry} {o : Obj} (hm : MapB h mb es c) (p : PutO h h' mb o) : CH h h' := by
  refine ⟨fun b l hb => ?_, fun b o v hc => ?_⟩
  · have := ne_map hb hm
    obtain ⟨e, he⟩ := hb
    exact ⟨e, by rw [p.old b this]; exact he⟩
  · have hne : b ≠ mb := by
      rintro rfl
      have hm : h[b]? = _ := hm
      unfold Sx.cell at hc
      rw [hm] at hc; cases hc
    unfold Sx.cell at hc ⊢
    rw [p.old b hne]; exact hc

theorem SL.ch {α : Type} {enc : α → List Value} {h h' : Heap} {v : Value} {l : List α} (hs : SL enc h v l) (x : CH h h') : SL enc h' v l := by
  obtain ⟨a, c, rfl, h1, h2⟩ := hs
  refine ⟨a, c, rfl, h1, ?_⟩
  cases a with
  | none => exact h2
  | some a =>
    obtain ⟨b, o, sp⟩ := a
    cases sp with
    | some q => exact h2
    | none => exact fun i v hv => x.cell _ _ _ (h2 i v hv)

theorem TH.ch {h h' : Heap} {vs : List Value} {t : Thing} (x : TH h vs t) (hc : CH h h') : TH h' vs t := by
  obtain ⟨pv, lv, rv, rfl, h2, h3, h4⟩ := x
  exact ⟨pv, lv, rv, rfl, SL.ch h2 hc, SL.ch h3 hc, SL.ch h4 hc⟩

theorem KS.ch {h h' : Heap} {kb sb mb : Nat} (x : KS h kb sb mb) (hc : CH h h') : KS h' kb sb mb := ⟨hc.blk _ _ x.k, hc.blk _ _ x.s⟩

/-- A new thing is put. -/
theorem KR.put {h h' : Heap} {kb sb mb c tb : Nat} {m : List KI} {key : ByteArray} {us : List Value} {t : Thing} (x : KR h kb sb mb c m)
    (p : PutO h h' mb (.map ⟨m.map KI.ent ++ [{ key := .string key, val := ptr tb, born := c }]⟩ (c + 1))) (hn : ∀ i ∈ m, i.key ≠ key) (hk : key.size ≤ 1048576) (B : Blk h tb us) (tx : TH h us t) (n : Lens t) (hl : m.length < 65536) :
    KR h' kb sb mb (c + 1) (m ++ [⟨key, tb, us, t, c⟩]) := by
  have ch := ch_putO x.map p
  refine ⟨x.ks.ch ch, ?_, fun i hi => ?_, ?_, fun i hi => ?_, ?_, fun i hi => ?_, by simp; omega⟩
  · show h'[mb]? = _
    rw [p.blk]
    simp [KI.ent]
  · rcases List.mem_append.1 hi with hi | hi
    · obtain ⟨h1, h2, h3⟩ := x.here i hi
      exact ⟨ch.blk _ _ h1, h2.ch ch, h3⟩
    · simp at hi
      subst hi
      exact ⟨ch.blk _ _ B, tx.ch ch, n⟩
  · rw [List.map_append, List.nodup_append]
    refine ⟨x.nodup, by simp, ?_⟩
    intro a ha b hb
    obtain ⟨i, hi, rfl⟩ := List.mem_map.1 ha
    simp at hb
    subst hb
    exact hn i hi
  · rcases List.mem_append.1 hi with hi | hi
    · have := x.born i hi; omega
    · simp at hi
      subst hi
      exact Nat.lt_succ_self _
  · rw [List.map_append, List.nodup_append]
    refine ⟨x.borns, by simp, ?_⟩
    intro a ha b hb
    obtain ⟨i, hi, rfl⟩ := List.mem_map.1 ha
    simp at hb
    subst hb
    have := x.born i hi
    exact fun e => by omega
  · rcases List.mem_append.1 hi with hi | hi
    · exact x.keys i hi
    · simp at hi
      subst hi
      exact hk

theorem eight {ws vs : List Value} (hw : ws.length = 8) (hv : vs.length = 8) : splice ws 0 vs = vs := by
  match ws, hw, vs, hv with
  | [_, _, _, _, _, _, _, _], _, [_, _, _, _, _, _, _, _], _ => rfl

def zeroX : List Value := [.string ⟨#[]⟩, .int .i64 0, .string ⟨#[]⟩, .slice none 0 0, .slice none 0 0, .slice none 0 0, .bool false, .int .i64 0]

theorem cells_tail {h : Heap} {b : Nat} {x : RX} (B : Blk h b (encX x)) : Cells h b 1 x.vs := cells_part B fun i v hv => by
  rw [Nat.add_comm]; exact hv

def OfK (h : Heap) (l : List RX) (r : Value) (h' : Heap) : Prop := Chg [] h h' ∧ match ofX [] l with
  | none => r = .tuple #[.pointer none, .int .i64 2]
  | some _ => ∃ kb sb mb c m, r = .tuple #[ptr kb, .int .i64 0] ∧ KR h' kb sb mb c m ∧ m.map KI.pr = l.map RX.pr ∧ h.size ≤ mb

theorem ofK_bad {h h' : Heap} {l : List RX} (hc : Chg [] h h') (hn : ofX [] l = none) : OfK h l (.tuple #[.pointer none, .int .i64 2]) h' := by
  refine ⟨hc, ?_⟩
  rw [hn]

theorem KOf_calls {h : Heap} {v : Value} {l : List RX} (hv : SL encX h v l) (g : GX h l) (nv : NVast l) :
    CallsH Tryz.prog 6 [v] h (Ret (OfK h l)) := by
  have hl := nv.len
  obtain ⟨a, c, rfl, hlc⟩ := hv.form
  refine f6_calls (by simp) ?_
  refine call_ret New_calls ?_
  rintro _ h1 ⟨kb, sb, mb, rfl, ks1, hm1, emb, _, _, hc1⟩
  have kr1 : KR h1 kb sb mb 0 [] := ⟨ks1, hm1, by simp, by simp, by simp, by simp, by simp, by simp⟩
  refine loop_intro (fun k : Nat => [(0, .slice a l.length c), (4, ptr kb), (11, .slice a l.length c), (12, .int .i64 l.length), (13, .int .i64 k)])
    (fun k h' => k ≤ l.length ∧ Chg [] h h' ∧ ∃ m acc, KR h' kb sb mb k m ∧ m.map KI.pr = (l.take k).map RX.pr ∧ UpX acc ∧ ofX [] l = ofX acc (l.drop k) ∧ ∀ y, y ∈ acc ↔ y ∈ l.take k) (fun k => l.length - k) 0
    ⟨rfl, rfl, rfl, rfl, rfl, trivial⟩ ⟨Nat.zero_le _, hc1, [], [], kr1, rfl, List.Pairwise.nil, rfl, by simp⟩ ?_
  rintro k h2 ⟨hk, hc2, m, acc, kr2, hpr, hup, hof, hacc⟩
  refine And.intro rfl (And.intro (fun ht => ?_) (fun ht => ?_))
  · have hlt : k < l.length := by omega
    obtain ⟨b, o, rfl⟩ := hv.addr (by omega)
    have hcs := (hv.ext hc2).cells encX_len (i := k) (x := l[k]) (by simp [hlt])
    have hdr : l.drop k = l[k] :: l.drop (k + 1) := List.drop_eq_getElem_cons hlt
    have tk : l.take (k + 1) = l.take k ++ [l[k]] := take_snoc l k hlt
    have hmem : l[k] ∈ l := List.getElem_mem hlt
    have hx := g _ hmem
    have hsm := nv.small _ hmem
    have hkz := nv.keys _ hmem
    generalize hxe : l[k] = x at *
    have hml : m.length = k := by
      have := congrArg List.length hpr
      simp at this; omega
    refine And.intro (by omega) (And.intro ht (Exists.intro (encX x) (And.intro (encX_len x) (And.intro hcs ?_))))
    intro b6 h3 g3
    refine Exists.intro _ (And.intro g3.blk (And.intro (by decide) (And.intro (encX_len x) (And.intro (encX_one x) ?_))))
    intro h4 p4
    have g4 := g3.put p4
    have B4 : Blk h4 b6 (encX x) := by
      have h8 : Blk h4 b6 (splice zeroX 0 (encX x)) := p4.blk
      rw [eight rfl (encX_len x)] at h8
      exact h8
    have c24 := g4.chg
    have kr4 := kr2.ext c24
    have hc4 := hc2.nil c24
    refine Exists.intro _ (And.intro (cell_blk kr4.ks.k rfl) (Exists.intro _ (And.intro (cell_blk kr4.ks.s rfl) (Exists.intro _ (And.intro (cell_blk B4 rfl) ?_)))))
    refine And.intro rfl (Exists.intro (m.map KI.ent) (Exists.intro k (And.intro kr4.map (And.intro (ents_fit m) ?_))))
    rw [hdr] at hof
    rcases mfind_ents x.key m 0 with ⟨hmf, hno⟩ | ⟨j, i, hmf, hj, hik⟩
    rotate_left
    · rw [hmf]
      refine ofK_bad hc4 ?_
      have him : i ∈ m := List.mem_of_getElem? hj
      have : i.pr ∈ (l.take k).map RX.pr := by rw [← hpr]; exact List.mem_map_of_mem him
      obtain ⟨y, hy, hyp⟩ := List.mem_map.1 this
      have hyk : y.key = x.key := by
        have := congrArg Prod.fst hyp
        exact this.trans hik
      rw [hof, ofX, if_pos (.inl (findX_has hup ⟨y, (hacc y).2 hy, hyk⟩))]
    · rw [hmf]
      refine Exists.intro _ (And.intro (cell_blk B4 rfl) ?_)
      refine And.intro rfl (And.intro (fun big => absurd big (by omega)) (fun _ => ?_))
      refine Exists.intro x.vs (And.intro x.len (And.intro (cells_tail B4) ?_))
      refine call_ret (KCheck_calls (hx.ext hc4) hsm) ?_
      rintro r h5 ⟨hr, c45⟩
      have hc5 := hc4.nil c45
      have hfn : (findX x.key acc).2 = false := by
        cases hb : (findX x.key acc).2 with
        | false => rfl
        | true =>
          obtain ⟨y, hy, hyk⟩ := findX_mem hb
          have : y.pr ∈ m.map KI.pr := by rw [hpr]; exact List.mem_map_of_mem ((hacc y).1 hy)
          obtain ⟨i, hi, hip⟩ := List.mem_map.1 this
          have : i.key = y.key := congrArg Prod.fst hip
          exact absurd (this.trans hyk) (hno i hi)
      cases hko : kOK x.thing with
      | false =>
        rw [hko] at hr
        subst hr
        refine ofK_bad hc5 ?_
        rw [hof, ofX, if_pos (.inr hko)]
      | true =>
        rw [hko] at hr
        subst hr
        have B5 := B4.chg c45 (by simp)
        refine Exists.intro x.vs (And.intro x.len (And.intro (cells_tail B5) ?_))
        refine call_ret (copied_calls (hx.ext hc5) hsm.lens) ?_
        rintro _ h6 ⟨⟨us, rfl, tu, hub⟩, c56⟩
        intro b9 h7 g7
        refine Exists.intro _ (And.intro g7.blk (And.intro (by decide) (And.intro tu.len (And.intro (thing_one tu) ?_))))
        intro h8 p8
        have g8 := g7.put p8
        have B8 : Blk h8 b9 us := by
          have h9 : Blk h8 b9 (splice zeroV 0 us) := p8.blk
          rw [seven rfl tu.len] at h9
          exact h9
        have c58 := c56.nil g8.chg
        have kr8 := (kr4.ext c45).ext c58
        have B68 := B5.chg c58 (by simp)
        refine Exists.intro _ (And.intro (cell_blk kr8.ks.k rfl) (Exists.intro _ (And.intro (cell_blk kr8.ks.s rfl) (Exists.intro _ (And.intro (cell_blk B68 rfl) ?_)))))
        refine And.intro rfl (Exists.intro (m.map KI.ent) (Exists.intro k (And.intro kr8.map (And.intro (ents_fit m) ?_))))
        rw [hmf]
        intro h9 p9
        have kr9 := kr8.put p9 hno (by omega) B8 (tu.ext g8.chg) hsm.lens (by omega)
        have hc8 := hc5.nil c58
        refine And.intro rfl (fun z hz => ?_)
        have hz := add_in hz (by omega) (by omega)
        subst hz
        refine And.intro rfl (Exists.intro (k + 1) (And.intro ?_ (And.intro ?_ ?_)))
        · exact ⟨rfl, rfl, rfl, rfl, rfl, trivial⟩
        · refine ⟨by omega, hc8.fresh p9.chg (by simp; omega), _, putX acc x, kr9, ?_, up_putX hup, ?_, fun y => ?_⟩
          · rw [tk, List.map_append, List.map_append, hpr]; rfl
          · rw [hof, ofX, if_neg]
            rintro (h | h)
            · rw [hfn] at h; cases h
            · rw [hko] at h; cases h
          · rw [mem_putX hup, tk, List.mem_append, List.mem_singleton, hacc]
            constructor
            · rintro (h | ⟨h, _⟩)
              · exact .inr h
              · exact .inl h
            · rintro (h | h)
              · refine .inr ⟨h, fun e => ?_⟩
                have := findX_has hup ⟨y, (hacc y).2 h, e⟩
                rw [hfn] at this; cases this
              · exact .inl h
        · omega
  · have hlt : k = l.length := by omega
    subst hlt
    refine And.intro rfl (And.intro (fun big => absurd big (by omega)) (fun _ => ?_))
    refine ⟨hc2, ?_⟩
    rw [hof, List.drop_length, ofX]
    rw [List.take_length] at hpr
    exact ⟨kb, sb, mb, _, m, rfl, kr2, hpr, by omega⟩

end Go.Proofs.YtigolfakcblnjaaGreat
