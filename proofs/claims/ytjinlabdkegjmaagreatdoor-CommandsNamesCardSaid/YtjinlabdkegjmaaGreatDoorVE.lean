/-
  Layers 9, 10: a word that is no command's; all names.
-/
import Derived.Test.YtjinlabdkegjmaaGreatDoorVD
namespace Go.Proofs.YtjinlabdkegjmaaGreatDoor
open Go Go.Sx Go.Proofs.YtjinlabdkegjmaaGreatDoor.C

/-- A keyspace that is one. -/
def IsK (h : Heap) (k : Value) : Prop := ∃ b a, k = .pointer (some ⟨b, 0, none⟩) ∧ cell h b 0 = some (.pointer (some a))

theorem knew_calls {h : Heap} : CallsH Tryz.prog 11 [] h (Ret fun r h' => IsK h' r ∧ Chg [] h h') := by
  refine f11_calls (by simp) ?_
  intro b1 h1 g1 b2 h2 g2 b3 h3 g3
  exact And.intro ⟨_, _, rfl, cell_blk g3.blk rfl⟩ ((g1.chg.nil g2.chg).nil g3.chg)

theorem none_no {h : Heap} {k : Value} (hk : IsK h k) : CallsH Tryz.prog 69 [k] h (Ret fun r h' => r = .bool false ∧ h' = h) := by
  obtain ⟨b, a, rfl, hc⟩ := hk
  refine f69_calls (by simp) ?_
  exact Exists.intro _ (And.intro hc (And.intro rfl rfl))
theorem none_yes {h : Heap} : CallsH Tryz.prog 69 [.pointer none] h (Ret fun r h' => r = .bool true ∧ h' = h) := by
  refine f69_calls (by simp) ?_
  exact And.intro rfl rfl
theorem ksame_no {h : Heap} {k : Value} (hk : IsK h k) : CallsH Tryz.prog 24 [k, .pointer none] h (Ret fun r h' => r = .bool false ∧ h' = h) := by
  refine f24_calls (by simp) ?_
  refine call_ret (none_no hk) ?_
  rintro _ _ ⟨rfl, rfl⟩
  refine call_ret none_yes ?_
  rintro _ _ ⟨rfl, rfl⟩
  refine call_ret (none_no hk) ?_
  rintro _ _ ⟨rfl, rfl⟩
  exact And.intro rfl rfl

theorem mfind_no {k : ByteArray} : ∀ {ms : List MapEntry} {i : Nat}, (∀ e ∈ ms, ∃ s, e.key = .string s ∧ s ≠ k) → mfind (.string k) ms i = none
  | [], _, _ => rfl
  | e :: ms, i, hm => by
    unfold mfind
    obtain ⟨s, h1, h2⟩ := hm e (by simp)
    rw [if_neg]
    · exact mfind_no fun e he => hm e (by simp [he])
    · intro hs
      have := sameBits_eq (k := .str) (by rfl) (by rw [h1]; rfl) hs
      rw [h1] at this
      simp at this
      exact h2 this.symm

theorem ones4 : ∀ u ∈ [Value.int .i64 0, .int .i64 0, .string ⟨#[]⟩, .slice none 0 0], u.oneCell' = true := by
  intro u hu
  simp at hu
  rcases hu with rfl | rfl | rfl | rfl <;> rfl

def nothing : Value := .tuple ⟨[.agg ⟨[.int .i64 0, .int .i64 0, .string ⟨#[]⟩, .slice none 0 0]⟩, .slice none 0 0, .bool false]⟩

theorem do_unknown {h : Heap} {k now : Value} {s : ByteArray} {ba : Nat} (hk : IsK h k) (ha : cell h ba 0 = some (.string s)) (hs : s.size < 4611686018427387904) (hu : up s ∉ cmdNames) :
    CallsH Tryz.prog 37 [k, now, .slice (some ⟨ba, 0, none⟩) 1 1] h (Ret fun r h' => r = nothing ∧ Chg [] h h') := by
  refine f37_calls (by simp) ?_
  intro b1 h1 g1 b2 h2 g2
  have ch : Chg [] h h2 := g1.chg.nil g2.chg
  have hne : b2 ≠ b1 := by
    have := g1.id; have := g2.id; have := g1.size; omega
  have hb1 : h.size ≤ b1 ∧ h.size ≤ b2 := by
    have := g1.id; have := g2.id; have := g1.size; omega
  refine And.intro rfl (And.intro (fun h0 => absurd h0 (by decide)) (fun _ => ?_))
  have hk2 : IsK h2 k := by
    obtain ⟨b, a, rfl, hc⟩ := hk
    exact ⟨b, a, rfl, cell_chg hc ch (by simp)⟩
  refine call_ret (ksame_no hk2) ?_
  rintro _ _ ⟨rfl, rfl⟩
  refine And.intro (by decide) (And.intro (by decide) (Exists.intro _ (And.intro (cell_chg ha ch (by simp)) ?_)))
  refine callq_ret cmds_calls ?_
  rintro _ h3 ⟨mb, c, ms, rfl, hm, hc3⟩
  refine And.intro hc3.ext ?_
  refine callq_ret (bword_calls hs) ?_
  rintro _ h4 ⟨rfl, hc4⟩
  refine And.intro hc4.ext ?_
  have hc34 := hc3.nil hc4
  have hnf : mfind (.string (up s)) ms 0 = none := mfind_no fun e he => by
    obtain ⟨q, hq, e1, _⟩ := hm.key e he
    exact ⟨q, e1, fun e2 => hu (e2 ▸ hq)⟩
  refine And.intro rfl (Exists.intro ms (Exists.intro c (And.intro (hm.map.chg hc4 (by simp)) (And.intro ?_ ?_))))
  · intro e he
    obtain ⟨q, _, e1, _⟩ := hm.key e he
    rw [e1]; rfl
  rw [hnf]
  have B1 := (g1.blk.chg g2.chg (by simp)).chg hc34 (by simp)
  have B2 := g2.blk.chg hc34 (by simp)
  have ch4 := ch.nil hc34
  refine Exists.intro _ (And.intro B1 (And.intro (Nat.le_refl _) (And.intro rfl (And.intro ones4 fun h5 p1 => ?_))))
  refine Exists.intro _ (And.intro (B2.chg p1.chg (by simp; exact hne)) (And.intro (Nat.le_refl _) (And.intro rfl (And.intro (Go.Sx.ones1 rfl) fun h6 p2 => ?_))))
  have f2 : Blk h6 b1 [.int .i64 0, .int .i64 0, .string ⟨#[]⟩, .slice none 0 0] := p1.blk.chg p2.chg (by simp; exact fun e => hne e.symm)
  have f1 : Chg [] h h6 := ch4.fresh (p1.chg.trans p2.chg (U := [b1, b2]) (by simp) (by simp)) (by
    intro q hq
    simp at hq
    rcases hq with rfl | rfl
    · exact hb1.1
    · exact hb1.2)
  exact Exists.intro _ (And.intro rfl (And.intro (cells_blk f2) (Exists.intro _ (And.intro (cell_blk p2.blk rfl) (And.intro rfl f1)))))

theorem ldo_unknown {h : Heap} {k now : Value} {s : ByteArray} {ba : Nat} (hk : IsK h k) (ha : cell h ba 0 = some (.string s)) (hs : s.size < 4611686018427387904) (hu : up s ∉ lcmNames) :
    CallsH Tryz.prog 10 [k, now, .slice (some ⟨ba, 0, none⟩) 1 1] h (Ret fun r h' => r = nothing ∧ Chg [] h h') := by
  refine f10_calls (by simp) ?_
  intro b1 h1 g1 b2 h2 g2
  have ch : Chg [] h h2 := g1.chg.nil g2.chg
  have hne : b2 ≠ b1 := by
    have := g1.id; have := g2.id; have := g1.size; omega
  have hb1 : h.size ≤ b1 ∧ h.size ≤ b2 := by
    have := g1.id; have := g2.id; have := g1.size; omega
  refine And.intro rfl (And.intro (fun h0 => absurd h0 (by decide)) (fun _ => ?_))
  have hk2 : IsK h2 k := by
    obtain ⟨b, a, rfl, hc⟩ := hk
    exact ⟨b, a, rfl, cell_chg hc ch (by simp)⟩
  refine call_ret (ksame_no hk2) ?_
  rintro _ _ ⟨rfl, rfl⟩
  refine And.intro (by decide) (And.intro (by decide) (Exists.intro _ (And.intro (cell_chg ha ch (by simp)) ?_)))
  refine callq_ret lcms_calls ?_
  rintro _ h3 ⟨mb, c, ms, rfl, hm, hc3⟩
  refine And.intro hc3.ext ?_
  refine callq_ret (lword_calls hs) ?_
  rintro _ h4 ⟨rfl, hc4⟩
  refine And.intro hc4.ext ?_
  have hc34 := hc3.nil hc4
  have hnf : mfind (.string (up s)) ms 0 = none := mfind_no fun e he => by
    obtain ⟨q, hq, e1, _⟩ := hm.key e he
    exact ⟨q, e1, fun e2 => hu (e2 ▸ hq)⟩
  refine And.intro rfl (Exists.intro ms (Exists.intro c (And.intro (hm.map.chg hc4 (by simp)) (And.intro ?_ ?_))))
  · intro e he
    obtain ⟨q, _, e1, _⟩ := hm.key e he
    rw [e1]; rfl
  rw [hnf]
  have B1 := (g1.blk.chg g2.chg (by simp)).chg hc34 (by simp)
  have B2 := g2.blk.chg hc34 (by simp)
  have ch4 := ch.nil hc34
  refine Exists.intro _ (And.intro B1 (And.intro (Nat.le_refl _) (And.intro rfl (And.intro ones4 fun h5 p1 => ?_))))
  refine Exists.intro _ (And.intro (B2.chg p1.chg (by simp; exact hne)) (And.intro (Nat.le_refl _) (And.intro rfl (And.intro (Go.Sx.ones1 rfl) fun h6 p2 => ?_))))
  have f2 : Blk h6 b1 [.int .i64 0, .int .i64 0, .string ⟨#[]⟩, .slice none 0 0] := p1.blk.chg p2.chg (by simp; exact fun e => hne e.symm)
  have f1 : Chg [] h h6 := ch4.fresh (p1.chg.trans p2.chg (U := [b1, b2]) (by simp) (by simp)) (by
    intro q hq
    simp at hq
    rcases hq with rfl | rfl
    · exact hb1.1
    · exact hb1.2)
  exact Exists.intro _ (And.intro rfl (And.intro (cells_blk f2) (Exists.intro _ (And.intro (cell_blk p2.blk rfl) (And.intro rfl f1)))))

theorem take_snoc {α : Type} (l : List α) (k : Nat) (h : k < l.length) : l.take (k + 1) = l.take k ++ [l[k]] := by
  rw [List.take_succ_eq_append_getElem h]


theorem sops_nil {P : Program} {Qp : List PanicEntry → Heap → Prop} {K : Env → Heap → Prop} {σ : Env} {h : Heap} (hk : K σ h) : sops P Qp K [] σ h := hk
theorem then_n {next : Env → List Deferred → Heap → Prop} {Q : Post} {σ : Env} {ds : List Deferred} {h : Heap} (hk : next σ ds h) : thenQ next Q .normal σ ds h := hk
theorem skip_n {P : Program} {Q : Post} {σ : Env} {ds : List Deferred} {h : Heap} (hk : Q .normal σ ds h) : swp P .skip Q σ ds h := hk
theorem cond_f {P : Program} {c : Operand} {a b : SCode} {Q : Post} {σ : Env} {ds : List Deferred} {h : Heap} (he : ev σ c = some (.bool false)) (hs : swp P b Q σ ds h) : swp P (.cond c a b) Q σ ds h := by
  simp only [swp, he]; exact hs

/-! The names of both layers: a run. -/
def pRow (l : List (List UInt8)) (args : List AV) (S : AS) : Option (AV × AS) :=
  match args with
  | [] => match grow S.H S.N (.cells false 0 (l.map AV.s)) with
    | some H' => some (.su S.N 0 l.length 0, ⟨H', S.N + 1⟩)
    | none => none
  | _ => none

theorem concs_s {ρ : Rho} : ∀ (l : List (List UInt8)), concs ρ (l.map AV.s) = some ((l.map ofB).map Value.string)
  | [] => rfl
  | x :: l => by simp only [List.map_cons, concs, conc, concs_s l]; rfl

theorem pRow_ok {oq : Nat → Value} {h0 : Heap} {f : Nat} {l : List (List UInt8)} (hne : l ≠ []) (hf : ∀ {h : Heap}, CallsH Tryz.prog f [] h (Ret fun r h' => SL encS h' r (l.map ofB) ∧ Row h.size h' r (l.map ofB) ∧ Chg [] h h')) :
    EntOK Tryz.prog oq (fun k => k < h0.size) h0 f (.prim (pRow l)) := by
  intro ρ h args vs S S' u R hop hg hR hcs hK
  unfold pRow at hg
  split at hg
  · split at hg
    · rename_i H' hgr
      simp at hg; obtain ⟨rfl, rfl⟩ := hg
      simp [concs] at hcs
      subst hcs
      refine hf.mono ?_
      intro e h' he
      cases e with
      | returned u =>
        obtain ⟨_, hrow, hch⟩ := he
        obtain ⟨b, c, tail, hb, rfl, hc, hblk⟩ := hrow (by simpa using hne)
        have hlt : b < h'.size := by
          obtain ⟨e, hx⟩ := hblk
          exact (Array.getElem?_eq_some_iff.1 hx).1
        obtain ⟨ρ', h1, h2, _, h3⟩ := hR.add (h' := h') (b := b) (ba := 0) (cp := c) default hgr (fun a' B' r' k1 k2 k3 => by
          obtain ⟨q, hq, _, hq2, _⟩ := hR.obj a' B' k1 k2
          rw [k3] at hq; simp at hq; subst hq
          omega) (fun hF => by have := (hR.fr _ hF).1; omega) hlt hch.size (fun k _ hk => hch.old k hk (by simp))
          (fun ρ' hl hp _ => ⟨(l.map ofB).map Value.string, [], tail, concs_s l, rfl, fun h => absurd rfl h, hblk⟩)
        refine hK ρ' h' _ h1 h3 ?_
        have hc' : l.length + 0 ≤ c := by simpa using hc
        simp only [conc, h2, hc', if_true]
        simp
      | panicked ch => exact he.elim
      | outgrown => exact he.elim
    · simp at hg
  · simp at hg

theorem ops_mv {P : Program} {x : Operand} {d : Nat} {c : SCode} {Q : Post} {σ : Env} {ds : List Deferred} {h : Heap} {v : Value} (he : ev σ x = some v) (hs : swp P c Q (upd σ (some d) v) ds h) :
    swp P (.seq (.ops [⟨some d, none, .mv x⟩]) c) Q σ ds h := by
  simp only [swp, sops, sopr, sop, he]
  exact hs

theorem swp_seq' {P : Program} {a b : SCode} {Q : Post} {σ : Env} {ds : List Deferred} {h : Heap} (hs : swp P a (thenQ (swp P b Q) Q) σ ds h) : swp P (.seq a b) Q σ ds h := hs

theorem swp_assoc {P : Program} {a b c : SCode} {Q : Post} {σ : Env} {ds : List Deferred} {h : Heap} (hs : swp P (.seq (.seq a b) c) Q σ ds h) : swp P (.seq a (.seq b c)) Q σ ds h := by
  have e : thenQ (swp P b (thenQ (swp P c Q) Q)) (thenQ (swp P c Q) Q) = thenQ (swp P b (thenQ (swp P c Q) Q)) Q := by
    funext x; cases x <;> rfl
  simp only [swp] at hs ⊢
  rw [← e]; exact hs

def tbR : Tbl := .node (.node .nil 7 (.prim (pRow lsortL)) .nil) 34 Q.f34_ent (.node (.node .nil 35 (.prim (pRow sortL)) .nil) 79 Q.f79_ent .nil)
theorem tbR_ok (oq : Nat → Value) (h0 : Heap) : TOK Tryz.prog oq (fun k => k < h0.size) h0 tbR := ⟨⟨trivial, pRow_ok (by decide) lnames_calls, trivial⟩, Q.f34_ok _ _ _, ⟨⟨trivial, pRow_ok (by decide) bnames_calls, trivial⟩, Q.f79_ok _ _ _, trivial⟩⟩

def pre10 : SCode := .seq (.ops f17r1) (.seq (.ops f17r2) (.block 0 (.loop f17l7)))
def mapAt1 (l : List (List UInt8)) : Option AOut → Bool
  | some (.nrm, E', [], S) => match E'.get 1 with
    | some (.m a) => match S.H.get a with
      | some (.map es c) => Nat.beq c l.length && chkE es l 0
      | _ => false
    | _ => false
  | _ => false
def bothL : List (List UInt8) := sortL ++ lsortL
set_option maxRecDepth 100000 in
theorem pre_run : mapAt1 bothL (arec Tryz.prog tbR 400 [] pre10 .e [] ⟨.e, gtop⟩) = true := by kernel_rfl
theorem both_perm : (bothL.map ofB).Perm allNames := by decide +kernel
theorem all_order : (allNames.map bytesL).Pairwise (fun a b => leB a b = true) := by decide +kernel

theorem cnames_calls {h : Heap} : CallsH Tryz.prog 17 [] h (Ret fun r h' => SL encS h' r allNames ∧ Chg [] h h') := by
  refine f17_calls (by simp) ?_
  refine ops_mv rfl ?_
  refine swp_assoc ?_
  refine swp_seq' ?_
  have hr := pre_run
  unfold mapAt1 at hr
  split at hr
  · rename_i E' S' ho
    split at hr
    · rename_i a ha
      split at hr
      · rename_i es c hg
        simp only [Bool.and_eq_true, Nat.beq_eq] at hr
        refine run_code (oq := fun _ => .bool true) (h1 := fun _ => rfl) (tbR_ok _ _) ho ?_ ?_
        · intro t a ht; simp [T.get_e] at ht
        · intro ρ' h' σ' ds' xx hl' hR hE hD hX
          cases hX
          cases hD
          obtain ⟨u, k1, k2⟩ := hE 1 _ ha
          simp only [conc] at k1
          split at k1
          · rename_i b ba cp hp
            simp at k1; subst k1
            obtain ⟨ms, h1, h2⟩ := hR.mapOf hg hp
            obtain ⟨h3, h4⟩ := chkE_spec hr.2 h2
            have hlen : ms.length = 46 := by have := congrArg List.length h3; simpa [bothL, sortL, lsortL] using this
            have hm : MK h' b c ms (bothL.map ofB) := by
              refine ⟨h1, ?_, by decide +kernel, by omega, ?_, ?_, by decide +kernel⟩
              · rw [h3]; simp
              · intro e he
                have : e.born ∈ ms.map (·.born) := List.mem_map.2 ⟨e, he, rfl⟩
                rw [h4, List.mem_range'] at this
                obtain ⟨i, hi, e2⟩ := this
                have : bothL.length = 46 := rfl
                omega
              · rw [h4]; exact List.nodup_range'
            have hc1 := chg_of_ext hR.ext
            have hs1 : σ' 1 = some (.map (some b)) := k2
            refine then_n ?_
            refine cut_at [(1, .map (some b))] ⟨hs1, trivial⟩ ?_
            refine call_ret mKeys_callsI ?_
            rintro _ _ ⟨rfl, rfl⟩
            refine call_ret (sSorted_callsI hm both_perm all_order) ?_
            rintro r h3 ⟨hs, hrow, hc3⟩
            exact And.intro hs ((hc1.nil (keysHeap_chg 85 h' b)).nil hc3)
          · simp at k1
      · cases hr
    · cases hr
  · cases hr

end Go.Proofs.YtjinlabdkegjmaaGreatDoor
