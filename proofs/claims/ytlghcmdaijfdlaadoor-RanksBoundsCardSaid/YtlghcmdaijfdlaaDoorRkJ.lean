/-
  take, walked.
-/
import Derived.Test.YtlghcmdaijfdlaaDoorRkI
namespace Go.Proofs.YtlghcmdaijfdlaaDoor
open Go Go.Sx Go.Proofs.YtlghcmdaijfdlaaDoor.C

theorem take_calls {h : Heap} {rb mpb : Nat} {A B : List Nd} {m : Nd} {S : List Rank} (rk : RK h rb mpb (A ++ m :: B) S) (hAne : A ≠ []) :
    CallsH Tryd.prog 38 [ptr rb, ptr m.mb] h (Ret fun _ h' => RK h' rb mpb (A ++ B) (dropR m.r.name S) ∧ Chg (blks rb mpb (A ++ m :: B)) h h') := by
  obtain ⟨hd, A', rfl⟩ := List.exists_cons_of_ne_nil hAne
  have hNl := rk.len
  have hS : S = A'.map Nd.r ++ m.r :: B.map Nd.r := by rw [← rk.isS]; simp [recs]
  have hlen65 : (hd :: A' ++ m :: B).length ≤ 65537 := rk.rd.len
  have hup : upto m.r S = A'.length := by
    have hs := rk.sorted
    rw [hS] at hs ⊢
    rw [upto_mid hs]; simp
  have hdrop : dropR m.r.name S = A'.map Nd.r ++ B.map Nd.r := by
    have hs := rk.names
    rw [hS] at hs ⊢
    exact dropR_mid hs
  have okm := rk.rd.ok m (by simp)
  generalize hA : hd :: A' = A at *
  have hAl : A.length = upto m.r S + 1 := by rw [← hA, hup]; simp
  refine f38_calls (by simp) ?_
  refine Exists.intro (encR m.r) (And.intro rfl (And.intro (cells_part (l := m.row) okm.m ?_) ?_))
  · intro j v hj
    rw [Nat.zero_add]
    unfold Nd.row
    rw [List.getElem?_append_left (List.getElem?_eq_some_iff.1 hj).1]; exact hj
  refine call_ret (less_calls m.r) ?_
  rintro _ h2 ⟨bl, rfl, hbl, Bl, hc2⟩
  have rk2 := rk.ext hc2
  have ask := less_ask Bl (N := A ++ m :: B) (by rw [rk.isS]; exact rk.sorted)
  rw [rk.isS, ← hAl] at ask
  refine call_ret (down_calls rk2.rd rfl hAne ask) ?_
  rintro _ h6 ⟨pb, rfl, hpb, ⟨pl, Bp6, hpath⟩, hc3⟩
  have hc06 : Chg [] h h6 := hc2.nil hc3
  have rk6 := rk2.ext hc3
  obtain ⟨hd0, mem0, hN0, hht0, hrb6⟩ := rk6.rd.r
  obtain ⟨es, cl, hmap6, hperm⟩ := rk6.map
  have old : ∀ b ∈ blks rb mpb (A ++ m :: B), b < h.size := rk.lt
  have dis2 : (blks rb mpb (A ++ B)).Nodup := (List.nodup_cons.1 (List.nodup_cons.1 (blks_mid.nodup_iff.1 rk.dis)).2).2
  have sub2 : ∀ b ∈ blks rb mpb (A ++ B), b ∈ blks rb mpb (A ++ m :: B) := fun b hb => by rw [blks_mid.mem_iff]; simp [hb]
  obtain ⟨d1, d2, d3, d4, d5, d6, d7⟩ := dis_parts dis2
  have hmd := blks_mid.nodup_iff.1 rk.dis
  simp only [List.nodup_cons, List.mem_cons, not_or] at hmd
  obtain ⟨⟨hm1, hm2⟩, hm3, _⟩ := hmd
  have hmbl : m.mb ∉ lbN (A ++ B) := fun hb => hm2 (lbN_sub _ hb)
  have hmll : m.lb ∉ lbN (A ++ B) := fun hb => hm3 (lbN_sub _ hb)
  have lold : ∀ b ∈ lbN (A ++ B), b < h.size := fun b hb => old b (sub2 b (lbN_sub b hb))
  have z2 := hc2.size
  have hlen' : (A ++ B).length ≤ 65536 := by simp at hlen65 ⊢; omega
  refine loop_intro (fun n : Nat => [(0, ptr rb), (1, ptr m.mb), (4, ptr pb), (14, .int .i64 n)]) (fun n h' => n ≤ 16 ∧ TI h6 h' A B m n) (fun n => 16 - n) 0 ⟨rfl, rfl, rfl, rfl, trivial⟩
    ⟨Nat.zero_le _, ⟨(Chg.refl h6).mono (by simp), fun a ha => (rk6.rd.ok a ha).l, fun hh hlt => ?_⟩⟩ ?_
  · rw [if_neg (by omega)]; exact rk6.rd.lv hh hlt
  rintro n h7 ⟨hn16, ti⟩
  have Bp7 : Blk h7 pb pl := Bp6.chg ti.chg (fun hb => by have := lold _ hb; omega)
  have Mm7 : Blk h7 m.mb m.row := (rk6.rd.ok m (by simp)).m.chg ti.chg hmbl
  refine And.intro rfl (And.intro (fun ht => ?_) (fun ht => ?_))
  · have hn : n < 16 := by omega
    obtain ⟨p, i, hlast, hp1, hp2⟩ := hpath n hn
    have hpA := hlast.memN
    have Pm7 : Blk h7 p.mb p.row := (rk6.rd.ok p (by simp [hpA])).m.chg ti.chg (d3 p (List.mem_append_left _ hpA))
    obtain ⟨lk, Bl7, hlkl⟩ := ti.blk p (by simp [hpA])
    have hpt := hlast.get.1
    have hi : i < A.length := (List.getElem?_eq_some_iff.1 hlast.get.2).1
    have en : 0 + 0 + n * 1 = n := by omega
    have em : 0 + n * 2 = 2 * n := by omega
    refine And.intro (by omega) (And.intro (by omega) (Exists.intro (ptr p.mb) (And.intro ?_ ?_)))
    · exact cell_blk Bp7 (by rw [← hp1]; exact congrArg (fun o => pl[o]?) en)
    refine Exists.intro _ (And.intro (cell_blk Pm7 rfl) ?_)
    refine And.intro (by omega) (And.intro (by omega) ?_)
    rcases ti.link hn hlast with ⟨hmt, hlk, q, w, hlm⟩ | ⟨hmt, hlk⟩
    · -- the member itself
      refine Exists.intro (ptr m.mb) (And.intro ?_ ?_)
      · exact Eq.trans (congrArg (fun o => cell h7 p.lb (o + 0)) em) hlk.1
      refine And.intro ⟨_, Mm7, by simp [Nd.row, encR]⟩ (And.intro ⟨_, Mm7, by simp [Nd.row, encR]⟩ (And.intro (fun _ _ => ?_) (fun hne => absurd ⟨rfl, rfl⟩ hne)))
      refine Exists.intro _ (And.intro (cell_blk Mm7 rfl) ?_)
      refine And.intro (by omega) (And.intro (by omega) ?_)
      refine Exists.intro (.pointer q) (And.intro ?_ ?_)
      · exact Eq.trans (congrArg (fun o => cell h7 m.lb (o + 0)) em) hlm.1
      refine Exists.intro _ (And.intro (Eq.trans (congrArg (fun o => cell h7 p.lb (o + 1)) em) hlk.2) ?_)
      refine Exists.intro _ (And.intro (cell_blk Mm7 rfl) ?_)
      refine And.intro (by omega) (And.intro (by omega) ?_)
      refine Exists.intro _ (And.intro (Eq.trans (congrArg (fun o => cell h7 m.lb (o + 1)) em) hlm.2) ?_)
      refine And.intro rfl (fun z1 hz1 => ?_)
      refine And.intro rfl (fun w' hw' => ?_)
      refine Exists.intro lk (And.intro Bl7 (And.intro (by omega) (And.intro rfl (And.intro (ones2 rfl rfl) ?_))))
      intro h8 p8
      have p8 : Put h7 h8 p.lb (splice lk (0 + n * 2) [.pointer q, .int .i64 w']) := p8
      rw [em] at p8
      refine And.intro rfl (fun z3 hz3 => ?_)
      have hz3 := add_in hz3 (by omega) (by omega)
      subst hz3
      refine And.intro rfl (Exists.intro (n + 1) (And.intro ?_ (And.intro ?_ ?_)))
      · exact ⟨rfl, rfl, rfl, rfl, trivial⟩
      · refine ⟨by omega, ti.cut hn d4 hlen' hlast hmt Bl7 hlm.1 hlm.2 (fun a b => ?_) p8⟩
        simp only [List.length_append] at hlen'
        have e1 := add_in hz1 (by omega) (by omega)
        rw [e1] at hw'
        rw [sub_in hw' (by omega) (by omega)]; omega
      · omega
    · -- another one, or nobody
      obtain ⟨q, w, hl, hq⟩ : ∃ q w, link h7 p n (.pointer q) w ∧ (q = none ∨ ∃ b ∈ B, q = some ⟨b.mb, 0, none⟩) := by
        rcases hlk with ⟨w, hw⟩ | ⟨b, hb, w, hw⟩
        · exact ⟨none, w, hw, Or.inl rfl⟩
        · exact ⟨_, w, hw, Or.inr ⟨b, hb, rfl⟩⟩
      have rest : ∀ h8 w', w' = arith .sub .i64 w 1 → Put h7 h8 p.lb (splice lk (0 + n * 2 + 1) [.int .i64 w']) → TI h6 h8 A B m (n + 1) := by
        intro h8 w' hw' p8
        rw [em] at p8
        exact ti.skip hn d4 (by omega) hlast hmt Bl7 hl.2 (fun a b => sub_in hw' (by omega) (by omega)) p8
      refine Exists.intro (.pointer q) (And.intro ?_ ?_)
      · exact Eq.trans (congrArg (fun o => cell h7 p.lb (o + 0)) em) hl.1
      rcases hq with rfl | ⟨b, hb, rfl⟩
      · refine Exists.intro _ (And.intro (Eq.trans (congrArg (fun o => cell h7 p.lb (o + 1)) em) hl.2) ?_)
        refine And.intro rfl (fun w' hw' => ?_)
        refine Exists.intro lk (And.intro Bl7 (And.intro (by omega) (And.intro rfl (And.intro (ones1 rfl) ?_))))
        intro h8 p8
        refine And.intro rfl (fun z3 hz3 => ?_)
        have hz3 := add_in hz3 (by omega) (by omega)
        subst hz3
        refine And.intro rfl (Exists.intro (n + 1) (And.intro ?_ (And.intro ?_ ?_)))
        · exact ⟨rfl, rfl, rfl, rfl, trivial⟩
        · exact ⟨by omega, rest h8 w' hw' p8⟩
        · omega
      · have Bb7 : Blk h7 b.mb b.row := (rk6.rd.ok b (by simp [hb])).m.chg ti.chg (d3 b (List.mem_append_right _ hb))
        have hbm : b.mb ≠ m.mb := fun e => hm2 (by rw [← e]; simp only [blks, List.mem_cons, List.mem_append]; exact Or.inr (Or.inr (Or.inl (List.mem_map_of_mem (List.mem_append_right _ hb)))))
        refine And.intro ⟨_, Bb7, by simp [Nd.row, encR]⟩ (And.intro ⟨_, Mm7, by simp [Nd.row, encR]⟩ (And.intro (fun e _ => absurd e hbm) (fun _ => ?_)))
        refine Exists.intro _ (And.intro (Eq.trans (congrArg (fun o => cell h7 p.lb (o + 1)) em) hl.2) ?_)
        refine And.intro rfl (fun w' hw' => ?_)
        refine Exists.intro lk (And.intro Bl7 (And.intro (by omega) (And.intro rfl (And.intro (ones1 rfl) ?_))))
        intro h8 p8
        refine And.intro rfl (fun z3 hz3 => ?_)
        have hz3 := add_in hz3 (by omega) (by omega)
        subst hz3
        refine And.intro rfl (Exists.intro (n + 1) (And.intro ?_ (And.intro ?_ ?_)))
        · exact ⟨rfl, rfl, rfl, rfl, trivial⟩
        · exact ⟨by omega, rest h8 w' hw' p8⟩
        · omega
  · have hn : n = 16 := by omega
    subst hn
    have hrb7 : Blk h7 rb [ptr hd0.mb, .map (some mpb)] := hrb6.chg ti.chg d1
    have hmap7 : MapB h7 mpb es cl := hmap6.chg ti.chg d2
    have hmapm : (mapOf (A ++ m :: B)).Perm ((.string m.r.name, ptr m.mb) :: mapOf (A ++ B)) := by
      rw [← hA]
      simp only [mapOf, List.cons_append, List.tail_cons, List.map_append, List.map_cons]
      exact List.perm_middle
    have hkeys : ∀ e ∈ es, ∃ a ∈ (A ++ m :: B).tail, e.key = .string a.r.name ∧ e.val = ptr a.mb := by
      intro e he
      have h1 : (e.key, e.val) ∈ mapOf (A ++ m :: B) := hperm.mem_iff.1 (List.mem_map_of_mem (f := fun e : MapEntry => (e.key, e.val)) he)
      obtain ⟨a, ha, hae⟩ := List.mem_map.1 h1
      exact ⟨a, ha, (congrArg Prod.fst hae).symm, (congrArg Prod.snd hae).symm⟩
    have hfits : ∀ e ∈ es, fits .str e.key = true := fun e he => by
      obtain ⟨a, _, h2, _⟩ := hkeys e he; rw [h2]; rfl
    have hnames := rk.names
    obtain ⟨j, v, hmf⟩ : ∃ j v, mfind (.string m.r.name) es 0 = some (j, v) := by
      cases hm : mfind (.string m.r.name) es 0 with
      | some jv => exact ⟨jv.1, jv.2, rfl⟩
      | none =>
        have hno := mfind_none (k := .str) rfl es 0 hfits hm
        have hin : ((.string m.r.name, ptr m.mb) : Value × Value) ∈ es.map fun e => (e.key, e.val) := by
          rw [hperm.mem_iff, hmapm.mem_iff]; simp
        obtain ⟨e, he, hee⟩ := List.mem_map.1 hin
        exact absurd (congrArg Prod.fst hee) (hno e he)
    obtain ⟨_, e, hej, hek, hev⟩ := mfind_spec (k := .str) rfl es 0 j v hfits hmf
    rw [Nat.sub_zero] at hej
    have hval : e.val = ptr m.mb := by
      obtain ⟨a, ha, hak, hav⟩ := hkeys e (List.mem_of_getElem? hej)
      rw [hek] at hak
      have han : m.r.name = a.r.name := by simpa using hak
      have ham : a = m := by
        rw [← hA] at ha
        simp only [List.cons_append, List.tail_cons, List.mem_append, List.mem_cons] at ha
        rw [hS] at hnames
        simp only [Names, List.map_append, List.map_cons, List.nodup_append, List.nodup_cons] at hnames
        obtain ⟨_, ⟨n1, _⟩, n2⟩ := hnames
        rcases ha with ha | ha | ha
        · exact absurd han.symm (n2 a.r.name (List.mem_map_of_mem (List.mem_map_of_mem ha)) m.r.name (by simp))
        · exact ha
        · exact absurd (by rw [han]; exact List.mem_map_of_mem (List.mem_map_of_mem ha)) n1
      rw [hav, ham]
    have hperm2 : ((es.eraseIdx j).map fun e => (e.key, e.val)).Perm (mapOf (A ++ B)) := by
      have h1 := (erase_perm hej).symm.trans (hperm.trans hmapm)
      rw [hek, hval] at h1
      exact h1.cons_inv
    refine Exists.intro _ (And.intro (cell_blk hrb7 rfl) ?_)
    refine Exists.intro _ (And.intro (cell_blk Mm7 rfl) ?_)
    refine And.intro rfl (Exists.intro es (Exists.intro cl (And.intro hmap7 (And.intro hfits ?_))))
    rw [hmf]
    intro h8 p8
    have hc68 : Chg (mpb :: lbN (A ++ B)) h6 h8 := ti.chg.trans p8.chg (fun k hk => by simp [hk]) (fun k hk _ => by simp at hk; simp [hk])
    have hno1 : 1 ∉ mpb :: lbN (A ++ B) := by
      have h1 : 1 ∉ blks rb mpb (A ++ B) := fun hb => rk.no1 (sub2 _ hb)
      simp only [blks, List.mem_cons, List.mem_append, not_or] at h1
      simp only [List.mem_cons, not_or]
      exact ⟨h1.2.1, h1.2.2.2⟩
    have hsorted := rk.sorted
    rw [hS] at hsorted hnames
    refine And.intro ⟨⟨?_, fun a ha => ?_, fun hh hlt => ?_, by omega⟩, dis2, ?_, ⟨_, _, p8.blk, hperm2⟩, ?_, ?_, rk6.tab.chg hc68 hno1, fun hb => rk.no1 (sub2 _ hb)⟩ (hc06.trans hc68 (by simp) (fun k hk _ => ?_))
    · have he : hd0 = hd := by rw [← hA] at hN0; simp at hN0; exact hN0.1.symm
      refine ⟨hd0, A' ++ B, by rw [← hA, he]; rfl, hht0, hrb7.chg p8.chg (by simp; exact d6)⟩
    · have haN : a ∈ A ++ m :: B := by
        rcases List.mem_append.1 ha with h | h <;> simp [h]
      obtain ⟨lk, h1, h2⟩ := ti.blk a haN
      have ok := rk6.rd.ok a haN
      refine ⟨ok.m.chg hc68 (by simp only [List.mem_cons, not_or]; exact ⟨d5 a ha, d3 a ha⟩), ⟨lk, h1.chg p8.chg ?_, h2⟩, ok.pos, ok.top⟩
      simp
      exact fun e => d2 (by rw [← e]; exact List.mem_map_of_mem ha)
    · have hL := ti.lv hh hlt
      rw [if_pos hlt] at hL
      refine lvl_keep (fun y hy o _ => ?_) hL
      have hyN := mem_of_ons (a := y.1) (i := y.2) hy
      unfold cell
      rw [p8.old _ fun e => d2 (by rw [← e]; exact List.mem_map_of_mem hyN)]
    · rw [hdrop, ← hA]; simp [recs]
    · rw [hdrop]; exact mid_sorted hsorted
    · rw [hdrop]; exact mid_names hnames
    · simp only [List.mem_cons] at hk
      rcases hk with rfl | hk
      · simp [blks]
      · exact sub2 _ (lbN_sub k hk)

end Go.Proofs.YtlghcmdaijfdlaaDoor
