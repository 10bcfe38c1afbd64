/-
  put, walked.
-/
import Derived.Test.YtlghcmdaijfdlaaDoorRkG
namespace Go.Proofs.YtlghcmdaijfdlaaDoor
open Go Go.Sx Go.Proofs.YtlghcmdaijfdlaaDoor.C

theorem lead_ptr {h : Heap} {hh : Nat} {a : Nd} {i : Nat} {L : List (Nd × Nat)} (hl : lead h hh a i L) : ∃ q w, link h a hh (.pointer q) w := by
  cases L with
  | nil => obtain ⟨w, hw⟩ := hl; exact ⟨none, w, hw⟩
  | cons y r => obtain ⟨b, k⟩ := y; exact ⟨_, _, hl⟩

theorem PI.link {h2 h : Heap} {A B : List Nd} {x p : Nd} {n i : Nat} (pi : PI h2 h A B x n) (hn : n < 16) (hlast : LastOn n A p i) : ∃ q w, link h p n (.pointer q) w := by
  obtain ⟨l, e, e1, e2⟩ := PI.mid (B := B) (x := x) hlast
  have hL := pi.lv n hn
  rw [if_neg (by omega), e1] at hL
  exact lead_ptr (lvl_app.1 hL).2.1

/-- The last of the first ones at the lowest height is the last one. -/
theorem last_low {A : List Nd} (hA : ∀ a ∈ A, 1 ≤ a.ht) {p : Nd} {i : Nat} (hl : LastOn 0 A p i) : i = A.length - 1 := by
  obtain ⟨l, e⟩ := hl
  have hmem : (p, i) ∈ ons 0 0 A := by rw [e]; simp
  have h1 := (ons_mem hmem).2.2
  have hi := (List.getElem?_eq_some_iff.1 h1).1
  have hlast : A[A.length - 1]? = some (A[A.length - 1]'(by omega)) := List.getElem?_eq_getElem (by omega)
  have hm2 := mem_ons (hh := 0) (k := 0) (hA _ (List.mem_of_getElem? hlast)) hlast
  have hr := @ons_rise 0 0 A
  rw [e] at hr hm2
  rw [List.pairwise_append] at hr
  rcases List.mem_append.1 hm2 with h | h
  · have := hr.2.2 _ h (p, i) (by simp)
    simp only at this; omega
  · simp at h; omega

theorem put_calls {h : Heap} {rb mpb : Nat} {N : List Nd} {S : List Rank} (rk : RK h rb mpb N S) (x : Rank) (coin : Int) (hn : ∀ y ∈ S, y.name ≠ x.name) (hlen : S.length < 65536) :
    CallsH Tryd.prog 29 [ptr rb, .agg ⟨encR x⟩, .int .i64 coin] h (Ret fun _ h' => ∃ N', RK h' rb mpb N' (insR x S) ∧ Chg (blks rb mpb N) h h' ∧ ∀ b ∈ blks rb mpb N', b ∈ blks rb mpb N ∨ h.size ≤ b) := by
  have hK : upto x S ≤ S.length := upto_le x S
  have hNl := rk.len
  obtain ⟨hN, hAl, ⟨hd, A', hA', hAr⟩, hBr⟩ := split_at rk hK
  generalize N.take (upto x S + 1) = A at hN hAl hA'
  generalize N.drop (upto x S + 1) = B at hN hBr
  subst hN
  have hAne : A ≠ [] := by rw [hA']; simp
  refine f29_calls (by simp) ?_
  intro b4 h1 g1
  refine Exists.intro (encR x) (And.intro rfl (And.intro (cells_blk g1.blk) ?_))
  refine call_ret (less_calls x) ?_
  rintro _ h2 ⟨bl, rfl, hbl, Bl, hc2⟩
  have hc02 : Chg [] h h2 := g1.chg.nil hc2
  have rk2 := rk.ext hc02
  have ask := less_ask Bl (N := A ++ B) (by rw [rk.isS]; exact rk.sorted)
  rw [rk.isS, ← hAl] at ask
  refine call_ret (down_calls rk2.rd rfl hAne ask) ?_
  rintro _ h3 ⟨pb, rfl, hpb, ⟨pl, Bp, hpath⟩, hc3⟩
  have rk3 := rk2.ext hc3
  have B43 : Blk h3 b4 (encR x) := (g1.blk.chg hc2 (by simp)).chg hc3 (by simp)
  refine Exists.intro (encR x) (And.intro rfl (And.intro (cells_blk B43) ?_))
  obtain ⟨hd0, mem0, hN0, hht0, hrb⟩ := rk3.rd.r
  refine Exists.intro _ (And.intro (cell_blk hrb rfl) ?_)
  obtain ⟨es, cl, hmap, hperm⟩ := rk3.map
  refine Exists.intro es (Exists.intro cl (And.intro hmap ?_))
  refine And.intro rfl (fun z hz => ?_)
  intro u hu
  refine And.intro rfl (fun c hc => ?_)
  have hc := and_one hc
  refine callq_ret (tz_calls rk3.tab u) ?_
  rintro _ h4 ⟨⟨t, rfl, t0, t1⟩, rfl⟩
  refine And.intro (Ext.refl _) ?_
  refine And.intro rfl (fun s hs => ?_)
  have hs := add_in hs (by omega) (by omega)
  refine And.intro rfl ?_
  refine And.intro rfl (fun m hm => ?_)
  have hm := add_in hm (by omega) (by omega)
  have hm1 : 1 ≤ m ∧ m ≤ 16 := by omega
  refine And.intro (by omega) (And.intro (Int.le_refl _) (And.intro (by omega) (And.intro (by omega) ?_)))
  intro xl h5 g5
  intro xb h6 g6
  let x' : Nd := ⟨xb, xl, m.toNat, x⟩
  have hxh : x'.ht = m.toNat := rfl
  have hxl : x'.lb = xl := rfl
  have hc46 : Chg [] h4 h6 := g5.chg.nil g6.chg
  have hc06 : Chg [] h h6 := (hc02.nil hc3).nil hc46
  have rk6 := rk3.ext hc46
  have BX : Blk h6 xb x'.row := g6.blk
  have BL : Blk h6 xl ((List.replicate m.toNat [.pointer none, .int .i64 0]).flatten) := g5.blk.chg g6.chg (by simp)
  have B46 := B43.chg hc46 (by simp)
  have Bp6 := Bp.chg hc46 (by simp)
  have hrb6 := hrb.chg hc46 (by simp)
  have hmap6 := hmap.chg hc46 (by simp)
  -- which blocks are which
  have s1 := g1.id; have s1' := g1.size; have s5 := g5.id; have s5' := g5.size; have s6 := g6.id; have s6' := g6.size
  have z1 := hc02.size; have z2 := hc2.size; have z3 := hc3.size
  have old : ∀ b ∈ blks rb mpb (A ++ B), b < h.size := rk.lt
  obtain ⟨d1, d2, d3, d4, d5, d6, d7⟩ := dis_parts rk.dis
  have lold : ∀ b ∈ lbN (A ++ B), b < h.size := fun b hb => old b (lbN_sub b hb)
  have nd : (x'.lb :: lbN (A ++ B)).Nodup := List.nodup_cons.2 ⟨fun hb => by have := lold _ hb; simp only [x'] at this; omega, d4⟩
  have hlen' : (A ++ B).length ≤ 65537 := rk.rd.len
  have hrb6r : rb ∉ x'.lb :: lbN (A ++ B) := by
    simp only [List.mem_cons, not_or]; exact ⟨by have := old rb (by simp [blks]); simp only [x']; omega, d1⟩
  have fresh6 : ∀ b, h.size ≤ b → b ≠ xl → b ∉ x'.lb :: lbN (A ++ B) := by
    intro b hb hne
    simp only [List.mem_cons, not_or]; exact ⟨hne, fun hb' => by have := lold _ hb'; omega⟩
  have hhead : (hd0 :: mem0).map Nd.r = (A ++ B).map Nd.r := by rw [hN0]
  refine loop_intro (fun n : Nat => [(0, ptr rb), (4, ptr b4), (6, ptr pb), (7, ptr xb), (32, .int .i64 n)]) (fun n h' => n ≤ 16 ∧ PI h6 h' A B x' n) (fun n => 16 - n) 0 ⟨rfl, rfl, rfl, rfl, rfl, trivial⟩
    ⟨Nat.zero_le _, ⟨(Chg.refl h6).mono (by simp), fun a ha => ?_, fun hh hlt => ?_⟩⟩ ?_
  · rcases List.mem_append.1 ha with ha | ha
    · exact (rk6.rd.ok a (by simp [ha])).l
    · rcases List.mem_cons.1 ha with rfl | ha
      · exact ⟨_, BL, by simp [x']; omega⟩
      · exact (rk6.rd.ok a (by simp [ha])).l
  · rw [if_neg (by omega)]; exact rk6.rd.lv hh hlt
  rintro n h7 ⟨hn16, pi⟩
  have BX7 : Blk h7 xb x'.row := BX.chg pi.chg (fresh6 xb (by omega) (by omega))
  have Bp7 := Bp6.chg pi.chg (fresh6 pb (by omega) (by have := Bp.lt; omega))
  have B47 := B46.chg pi.chg (fresh6 b4 (by omega) (by have := B43.lt; omega))
  refine And.intro rfl (And.intro (fun ht => ?_) (fun ht => ?_))
  · have hn : n < 16 := by omega
    obtain ⟨p, i, hlast, hp1, hp2⟩ := hpath n hn
    obtain ⟨p0, i0, hlast0, _, hp02⟩ := hpath 0 (by omega)
    obtain ⟨q, w, hlk⟩ := pi.link hn hlast
    have hpA := hlast.memN
    have okp6 := rk6.rd.ok p (List.mem_append_left _ hpA)
    have Pm7 : Blk h7 p.mb p.row := okp6.m.chg pi.chg (by
      simp only [List.mem_cons, not_or]
      have := old p.mb (by simp only [blks, List.mem_cons, List.mem_append]; exact Or.inr (Or.inr (Or.inl (List.mem_map_of_mem (List.mem_append_left _ hpA)))))
      exact ⟨by simp only [x']; omega, d3 p (List.mem_append_left _ hpA)⟩)
    obtain ⟨lk, Bl7, hlkl⟩ := pi.blk p (List.mem_append_left _ hpA)
    obtain ⟨xk, Bxl7, hxkl⟩ := pi.blk x' (by simp)
    have hpt := hlast.get.1
    have hi : i < A.length := (List.getElem?_eq_some_iff.1 hlast.get.2).1
    have hi0 : i0 = A.length - 1 := last_low (fun a ha => (rk6.rd.ok a (List.mem_append_left _ ha)).pos) hlast0
    have en : 0 + 0 + n * 1 = n := by omega
    have en2 : 0 + 16 + n * 1 = 16 + n := by omega
    have em : 0 + n * 2 = 2 * n := by omega
    refine And.intro (by omega) (And.intro (by omega) (Exists.intro (ptr p.mb) (And.intro ?_ ?_)))
    · exact cell_blk Bp7 (by rw [← hp1]; exact congrArg (fun o => pl[o]?) en)
    refine Exists.intro _ (And.intro (cell_blk Pm7 rfl) ?_)
    refine And.intro (by omega) (And.intro (by omega) ?_)
    refine Exists.intro _ (And.intro (cell_blk BX7 rfl) ?_)
    refine And.intro rfl (And.intro (fun hge => ?_) (fun hge => ?_))
    · refine Exists.intro (.int .i64 w) (And.intro ?_ ?_)
      · exact Eq.trans (congrArg (fun o => cell h7 p.lb (o + 1)) em) hlk.2
      refine And.intro rfl (fun w' hw' => ?_)
      refine Exists.intro lk (And.intro Bl7 (And.intro (by omega) (And.intro rfl (And.intro (ones1 rfl) ?_))))
      intro h8 p8
      have p8 : Put h7 h8 p.lb (splice lk (0 + n * 2 + 1) [.int .i64 w']) := p8
      rw [em] at p8
      refine And.intro rfl (fun z3 hz3 => ?_)
      have hz3 := add_in hz3 (by omega) (by omega)
      subst hz3
      refine And.intro rfl (Exists.intro (n + 1) (And.intro ?_ (And.intro ?_ ?_)))
      · exact ⟨rfl, rfl, rfl, rfl, rfl, trivial⟩
      · exact ⟨by omega, pi.skip hn nd hlen' hlast (by omega) Bl7 hlk.2 (fun a b => add_in hw' (by omega) (by omega)) p8⟩
      · omega
    · refine And.intro (by decide) (And.intro (by decide) (Exists.intro (.int .i64 i0) (And.intro (cell_blk Bp7 hp02) ?_)))
      refine And.intro (by omega) (And.intro (by omega) (Exists.intro (.int .i64 i) (And.intro ?_ ?_)))
      · exact cell_blk Bp7 (by rw [← hp2]; exact congrArg (fun o => pl[o]?) en2)
      refine And.intro rfl (fun ov hov => ?_)
      have hov := sub_in hov (by omega) (by omega)
      refine Exists.intro _ (And.intro (cell_blk BX7 rfl) ?_)
      refine Exists.intro (.pointer q) (And.intro ?_ ?_)
      · exact Eq.trans (congrArg (fun o => cell h7 p.lb (o + 0)) em) hlk.1
      refine Exists.intro (.int .i64 w) (And.intro ?_ ?_)
      · exact Eq.trans (congrArg (fun o => cell h7 p.lb (o + 1)) em) hlk.2
      refine And.intro rfl (fun w1 hw1 => ?_)
      refine And.intro (by omega) (And.intro (by omega) ?_)
      refine Exists.intro xk (And.intro Bxl7 (And.intro (by omega) (And.intro rfl (And.intro (ones2 rfl rfl) ?_))))
      intro h8 p8
      have p8 : Put h7 h8 xl (splice xk (0 + n * 2) [.pointer q, .int .i64 w1]) := p8
      refine And.intro rfl (fun w2 hw2 => ?_)
      have hw2 := add_in hw2 (by omega) (by omega)
      have hpx : p.lb ≠ xl := by
        intro e
        have := lold p.lb (List.mem_map_of_mem (List.mem_append_left _ hpA))
        omega
      have Bl8 : Blk h8 p.lb lk := by
        obtain ⟨e, he⟩ := Bl7
        exact ⟨e, by rw [p8.old _ hpx]; exact he⟩
      refine Exists.intro lk (And.intro Bl8 (And.intro (by omega) (And.intro rfl (And.intro (ones2 rfl rfl) ?_))))
      intro h9 p9
      have p9 : Put h8 h9 p.lb (splice lk (0 + n * 2) [ptr x'.mb, .int .i64 w2]) := p9
      rw [em] at p8 p9
      refine And.intro rfl (fun z3 hz3 => ?_)
      have hz3 := add_in hz3 (by omega) (by omega)
      subst hz3
      refine And.intro rfl (Exists.intro (n + 1) (And.intro ?_ (And.intro ?_ ?_)))
      · exact ⟨rfl, rfl, rfl, rfl, rfl, trivial⟩
      · refine ⟨by omega, pi.put hn nd hlen' hlast (by omega) Bl7 Bxl7 hlk.1 hlk.2 (w1 := w1) (w2 := w2) (fun a b => ?_) (by omega) p8 p9⟩
        rw [sub_in hw1 (by omega) (by omega)]; omega
      · omega
  · have hn : n = 16 := by omega
    subst hn
    have hrb7 : Blk h7 rb [ptr hd0.mb, .map (some mpb)] := hrb6.chg pi.chg hrb6r
    have hmn : mpb ∉ x'.lb :: lbN (A ++ B) := by
      simp only [List.mem_cons, not_or]; exact ⟨by have := old mpb (by simp [blks]); omega, d2⟩
    have hmap7 : MapB h7 mpb es cl := hmap6.chg pi.chg hmn
    have hkeys : ∀ e ∈ es, ∃ a ∈ (A ++ B).tail, e.key = .string a.r.name := by
      intro e he
      have h1 : (e.key, e.val) ∈ mapOf (A ++ B) := hperm.mem_iff.1 (List.mem_map_of_mem (f := fun e : MapEntry => (e.key, e.val)) he)
      obtain ⟨a, ha, hae⟩ := List.mem_map.1 h1
      exact ⟨a, ha, (congrArg Prod.fst hae).symm⟩
    have hfits : ∀ e ∈ es, fits .str e.key = true := fun e he => by
      obtain ⟨a, _, h2⟩ := hkeys e he; rw [h2]; rfl
    have hmf : mfind (.string x.name) es 0 = none := by
      cases hm : mfind (.string x.name) es 0 with
      | none => rfl
      | some jv =>
        obtain ⟨j, v⟩ := jv
        obtain ⟨_, e, he, hek, _⟩ := mfind_spec (k := .str) rfl es 0 j v hfits hm
        obtain ⟨a, ha, hae⟩ := hkeys e (List.mem_of_getElem? he)
        rw [hae] at hek
        have : a.r.name = x.name := by simpa using hek
        exact absurd this (hn a.r (by rw [← rk.isS]; exact List.mem_map_of_mem ha))
    refine Exists.intro _ (And.intro (cell_blk hrb7 rfl) ?_)
    refine Exists.intro _ (And.intro (cell_blk B47 rfl) ?_)
    refine And.intro rfl (Exists.intro es (Exists.intro cl (And.intro hmap7 (And.intro hfits ?_))))
    rw [hmf]
    intro h8 p8
    have hc68 : Chg (mpb :: x'.lb :: lbN (A ++ B)) h6 h8 := pi.chg.trans p8.chg (fun k hk => by simp [hk]) (fun k hk _ => by simp at hk; simp [hk])
    have hrecs : recs (A ++ x' :: B) = insR x S := by
      rw [hA']
      simp only [recs, List.cons_append, List.tail_cons, List.map_append, List.map_cons, hAr, hBr]
      rfl
    have hrd : RD h8 rb mpb (A ++ x' :: B) := by
      refine ⟨?_, fun a ha => ?_, fun hh hlt => ?_, ?_⟩
      · have he : hd0 = hd := by rw [hA'] at hN0; simp at hN0; exact hN0.1.symm
        refine ⟨hd0, A' ++ x' :: B, by rw [hA', he]; rfl, hht0, hrb7.chg p8.chg (by simp; exact d6)⟩
      · have hmb : a.mb ∉ mpb :: x'.lb :: lbN (A ++ B) ∧ Blk h6 a.mb a.row ∧ a.lb ≠ mpb := by
          by_cases hax : a = x'
          · subst hax
            simp only [List.mem_cons, not_or]
            have hm0 := old mpb (by simp [blks])
            refine ⟨⟨by show xb ≠ mpb; omega, by show xb ≠ xl; omega, fun hb => by have := lold _ hb; have : xb < h.size := this; omega⟩, BX, by show xl ≠ mpb; omega⟩
          · have haN : a ∈ A ++ B := by
              rcases List.mem_append.1 ha with ha | ha
              · simp [ha]
              · rcases List.mem_cons.1 ha with h | h
                · exact absurd h hax
                · simp [h]
            have hm0 : a.mb < h.size := old a.mb (by simp only [blks, List.mem_cons, List.mem_append]; exact Or.inr (Or.inr (Or.inl (List.mem_map_of_mem haN))))
            simp only [List.mem_cons, not_or]
            exact ⟨⟨d5 a haN, by omega, d3 a haN⟩, (rk6.rd.ok a haN).m, fun e => d2 (by rw [← e]; exact List.mem_map_of_mem haN)⟩
        obtain ⟨lk, h1, h2⟩ := pi.blk a ha
        have hht : 1 ≤ a.ht ∧ a.ht ≤ 16 := by
          rcases List.mem_append.1 ha with ha | ha
          · exact ⟨(rk6.rd.ok a (by simp [ha])).pos, (rk6.rd.ok a (by simp [ha])).top⟩
          · rcases List.mem_cons.1 ha with h | h
            · subst h; omega
            · exact ⟨(rk6.rd.ok a (by simp [h])).pos, (rk6.rd.ok a (by simp [h])).top⟩
        exact ⟨hmb.2.1.chg hc68 hmb.1, ⟨lk, h1.chg p8.chg (by simp; exact hmb.2.2), h2⟩, hht.1, hht.2⟩
      · have hL := pi.lv hh hlt
        rw [if_pos hlt] at hL
        refine lvl_keep (fun y hy o _ => ?_) hL
        have hyN := mem_of_ons (a := y.1) (i := y.2) hy
        have hne : y.1.lb ≠ mpb := by
          rcases List.mem_append.1 hyN with ha | ha
          · exact fun e => d2 (by rw [← e]; exact List.mem_map_of_mem (List.mem_append_left _ ha))
          · rcases List.mem_cons.1 ha with h | h
            · rw [h]; have := old mpb (by simp [blks]); omega
            · exact fun e => d2 (by rw [← e]; exact List.mem_map_of_mem (List.mem_append_right _ h))
        unfold cell
        rw [p8.old _ hne]
      · simp at hNl ⊢; omega
    have h1lt : 1 < h.size := by
      obtain ⟨v, _, _, hv⟩ := rk.tab 0 (by omega)
      exact cell_lt hv
    have hno1 : 1 ∉ mpb :: x'.lb :: lbN (A ++ B) := by
      have := rk.no1
      simp only [blks, List.mem_cons, List.mem_append, not_or] at this
      simp only [List.mem_cons, not_or]
      exact ⟨this.2.1, by omega, this.2.2.2⟩
    refine Exists.intro (A ++ x' :: B) (And.intro ?_ (And.intro ?_ ?_))
    · refine rk.put hAne hperm hrd p8.blk hrecs hn ⟨fun hb => ?_, fun hb => ?_, ?_⟩ ((rk6.tab).chg hc68 hno1) ⟨?_, ?_⟩
      · have : xb < h.size := old _ hb
        omega
      · have : xl < h.size := old _ hb
        omega
      · show xb ≠ xl; omega
      · show xb ≠ 1; omega
      · show xl ≠ 1; omega
    · refine hc06.trans hc68 (by simp) (fun k hk hlt => ?_)
      simp only [List.mem_cons] at hk
      rcases hk with rfl | rfl | hk
      · simp [blks]
      · omega
      · exact lbN_sub k hk
    · intro b hb
      rw [blks_mid.mem_iff] at hb
      simp only [List.mem_cons] at hb
      have e1 : x'.mb = xb := rfl
      rcases hb with hb | hb | hb
      · right; omega
      · right; omega
      · left; simpa using hb

end Go.Proofs.YtlghcmdaijfdlaaDoor
