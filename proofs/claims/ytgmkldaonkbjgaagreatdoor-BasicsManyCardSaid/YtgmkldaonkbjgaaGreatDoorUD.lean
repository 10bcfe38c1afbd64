/-
  Layer 7: a keyspace of things (keys.Of).
  DERIVED. MADE BY PROGRAM (lay-iter.mjs) off ytgmkldaonkbjgaagreatdoor.cut.gsa: THE SHELF's CONTRACTS ON 'slices.Sorted(maps.Keys(m))' LAID AT THIS DUMP: 1 map type. NO WALK OF THE LIBRARY's TEXT: each is one application of a contract over any P and ρ (Derived/Shelf/SlIter/, Derived/Shelf/SortM/).
  Layer 7: the sorted keys of a keyspace's map (over the shelf's contracts).
  Layer 7: All: what it goes over, by rising keys.
  Layer 7: has a keyspace just these things (taborlaw07.same).
  Layer 7: vast, sorted; the reference's Of and Names.
  Layer 7: taborlaw07.KeysAll.
  Layer 7: what an effect makes of a thing: plain laws.
  Layer 7: what the effects' rules do to a thing (printed by gendo.py).
  Layer 7: a keyspace behind an effect: plain laws.
  Layer 7: keys' one, whatever the effect (printed by genone.py).
  Layer 7: keys' one, whatever the effect, from its beginning (printed by genone2.py).
  Layer 7: keys' Apply, whatever the effects.
  The simplified code of this seat's functions, and that it is what the program's code comes to. Printed by a program (wip/print.lean).
  Layer 7: the reference's pairs, members, ranks (printed by genref.py).
  Layer 7: the reference's uses, kind, Count, Drop (printed by genuse.py).
  Layer 7: the reference's done (printed by gendone.py).
  Layer 7: a list of things behind an effect: plain laws.
  Layer 7: what stands there and is not gone: Get, the reference's Names.
  Layer 7: keys' Names and Size.
  The simplified code of this seat's functions, and that it is what the program's code comes to. Printed by a program (wip/print.lean).
  Layer 8: what is too much; what a gone thing costs.
  The simplified code of this seat's functions, and that it is what the program's code comes to. Printed by a program (wip/print.lean).
  Layer 8: a command that is asked: giving up, its effects, its arguments.
  Layer 8: a command that is asked: a text, a number of its arguments, a text that is put.
  Contracts of the library's functions, laid at this dump. Printed by a program (mklay.py).
  Layer 8: which texts are numbers, in plain words: what the library's parsing and printing come to is what the document's reading comes to.
  Layer 8: a text's number, by the program: the library's ParseInt and FormatInt by their contracts.
  Layer 8: a text is put; an argument's number; sums; replies.
  Layer 8: replies, sums, an argument's number; a number is added to one.
  The state of a walk: what stands in blocks of the call's own, each apart from the others.
  Layer 8: a command that is asked, as what stands in a walk.
  Layer 8: a text's number, by the document's reading.
  Layer 8: the document's number of a text.
-/
import Derived.Shelf.SlIter.Nil
import Derived.Shelf.SortM.Plain
import Derived.Shelf.SortM.SortNone
import Derived.Ground.GgzProg
import Derived.Ground.SlgmProg
import Derived.Test.YtgmkldaonkbjgaaGreatDoorProg
import Derived.Shelf.Strconv.ParseIntPublic10
import Derived.Shelf.Strconv.Itoa4
import Derived.Lib.ParseIntB
import Derived.Lib.ItoaNum
import Derived.Test.YtgmkldaonkbjgaaGreatDoorUC
namespace Go.Proofs.YtgmkldaonkbjgaaGreatDoor
open Go Go.Sx Go.Proofs.YtgmkldaonkbjgaaGreatDoor.C

structure CH (h h' : Heap) : Prop where
  blk : ∀ b l, Blk h b l → Blk h' b l
  cell : ∀ b o v, cell h b o = some v → cell h' b o = some v

theorem CH.trans {a b c : Heap} (x : CH a b) (y : CH b c) : CH a c := ⟨fun _ _ hb => y.blk _ _ (x.blk _ _ hb), fun _ _ _ hb => y.cell _ _ _ (x.cell _ _ _ hb)⟩

theorem ne_map {h : Heap} {b mb c : Nat} {l : List Value} {es : List MapEntry} (hb : Blk h b l) (hm : MapB h mb es c) : b ≠ mb := by
  rintro rfl
  obtain ⟨e, he⟩ := hb
  have hm : h[b]? = _ := hm
  rw [he] at hm; cases hm

theorem ch_putO {h h' : Heap} {mb c : Nat} {es : List MapEntry} {o : Obj} (hm : MapB h mb es c) (p : PutO h h' mb o) : CH h h' := by
  refine ⟨fun b l hb => ?_, fun b o v hc => ?_⟩
  · have := ne_map hb hm
    obtain ⟨e, he⟩ := hb
    exact ⟨e, by rw [p.old b this]; exact he⟩
  · have hne : b ≠ mb := by
      rintro rfl
      have hm : h[b]? = _ := hm
      unfold Sx.cell at hc
      rw [hm] at hc; cases hc
    unfold Sx.cell at hc ⊢
    rw [p.old b hne]; exact hc

theorem SL.ch {α : Type} {enc : α → List Value} {h h' : Heap} {v : Value} {l : List α} (hs : SL enc h v l) (x : CH h h') : SL enc h' v l := by
  obtain ⟨a, c, rfl, h1, h2⟩ := hs
  refine ⟨a, c, rfl, h1, ?_⟩
  cases a with
  | none => exact h2
  | some a =>
    obtain ⟨b, o, sp⟩ := a
    cases sp with
    | some q => exact h2
    | none => exact fun i v hv => x.cell _ _ _ (h2 i v hv)

theorem TH.ch {h h' : Heap} {vs : List Value} {t : Thing} (x : TH h vs t) (hc : CH h h') : TH h' vs t := by
  obtain ⟨pv, lv, rv, rfl, h2, h3, h4⟩ := x
  exact ⟨pv, lv, rv, rfl, SL.ch h2 hc, SL.ch h3 hc, SL.ch h4 hc⟩

theorem KS.ch {h h' : Heap} {kb sb mb : Nat} (x : KS h kb sb mb) (hc : CH h h') : KS h' kb sb mb := ⟨hc.blk _ _ x.k, hc.blk _ _ x.s⟩

theorem KR.put {h h' : Heap} {kb sb mb c tb : Nat} {m : List KI} {key : ByteArray} {us : List Value} {t : Thing} (x : KR h kb sb mb c m)
    (p : PutO h h' mb (.map ⟨m.map KI.ent ++ [{ key := .string key, val := ptr tb, born := c }]⟩ (c + 1))) (hn : ∀ i ∈ m, i.key ≠ key) (hk : key.size ≤ 1048576) (B : Blk h tb us) (tx : TH h us t) (n : Lens t) (hl : m.length < 65536) :
    KR h' kb sb mb (c + 1) (m ++ [⟨key, tb, us, t, c⟩]) := by
  have ch := ch_putO x.map p
  refine ⟨x.ks.ch ch, ?_, fun i hi => ?_, ?_, fun i hi => ?_, ?_, fun i hi => ?_, by simp; omega⟩
  · show h'[mb]? = _
    rw [p.blk]
    simp [KI.ent]
  · rcases List.mem_append.1 hi with hi | hi
    · obtain ⟨h1, h2, h3⟩ := x.here i hi
      exact ⟨ch.blk _ _ h1, h2.ch ch, h3⟩
    · simp at hi
      subst hi
      exact ⟨ch.blk _ _ B, tx.ch ch, n⟩
  · rw [List.map_append, List.nodup_append]
    refine ⟨x.nodup, by simp, ?_⟩
    intro a ha b hb
    obtain ⟨i, hi, rfl⟩ := List.mem_map.1 ha
    simp at hb
    subst hb
    exact hn i hi
  · rcases List.mem_append.1 hi with hi | hi
    · have := x.born i hi; omega
    · simp at hi
      subst hi
      exact Nat.lt_succ_self _
  · rw [List.map_append, List.nodup_append]
    refine ⟨x.borns, by simp, ?_⟩
    intro a ha b hb
    obtain ⟨i, hi, rfl⟩ := List.mem_map.1 ha
    simp at hb
    subst hb
    have := x.born i hi
    exact fun e => by omega
  · rcases List.mem_append.1 hi with hi | hi
    · exact x.keys i hi
    · simp at hi
      subst hi
      exact hk

theorem eight {ws vs : List Value} (hw : ws.length = 8) (hv : vs.length = 8) : splice ws 0 vs = vs := by
  match ws, hw, vs, hv with
  | [_, _, _, _, _, _, _, _], _, [_, _, _, _, _, _, _, _], _ => rfl

def zeroX : List Value := [.string ⟨#[]⟩, .int .i64 0, .string ⟨#[]⟩, .slice none 0 0, .slice none 0 0, .slice none 0 0, .bool false, .int .i64 0]

theorem cells_tail {h : Heap} {b : Nat} {x : RX} (B : Blk h b (encX x)) : Cells h b 1 x.vs := cells_part B fun i v hv => by
  rw [Nat.add_comm]; exact hv

def OfK (h : Heap) (l : List RX) (r : Value) (h' : Heap) : Prop := Chg [] h h' ∧ match ofX [] l with
  | none => r = .tuple #[.pointer none, .int .i64 2]
  | some _ => ∃ kb sb mb c m, r = .tuple #[ptr kb, .int .i64 0] ∧ KR h' kb sb mb c m ∧ m.map KI.pr = l.map RX.pr ∧ h.size ≤ mb

theorem ofK_bad {h h' : Heap} {l : List RX} (hc : Chg [] h h') (hn : ofX [] l = none) : OfK h l (.tuple #[.pointer none, .int .i64 2]) h' := by
  refine ⟨hc, ?_⟩
  rw [hn]

theorem KOf_calls {h : Heap} {v : Value} {l : List RX} (hv : SL encX h v l) (g : GX h l) (nv : NVast l) :
    CallsH Tryz.prog 10 [v] h (Ret (OfK h l)) := by
  have hl := nv.len
  obtain ⟨a, c, rfl, hlc⟩ := hv.form
  refine f10_calls (by simp) ?_
  refine call_ret New_calls ?_
  rintro _ h1 ⟨kb, sb, mb, rfl, ks1, hm1, emb, _, _, hc1⟩
  have kr1 : KR h1 kb sb mb 0 [] := ⟨ks1, hm1, by simp, by simp, by simp, by simp, by simp, by simp⟩
  refine loop_intro (fun k : Nat => [(0, .slice a l.length c), (4, ptr kb), (11, .slice a l.length c), (12, .int .i64 l.length), (13, .int .i64 k)])
    (fun k h' => k ≤ l.length ∧ Chg [] h h' ∧ ∃ m acc, KR h' kb sb mb k m ∧ m.map KI.pr = (l.take k).map RX.pr ∧ UpX acc ∧ ofX [] l = ofX acc (l.drop k) ∧ ∀ y, y ∈ acc ↔ y ∈ l.take k) (fun k => l.length - k) 0
    ⟨rfl, rfl, rfl, rfl, rfl, trivial⟩ ⟨Nat.zero_le _, hc1, [], [], kr1, rfl, List.Pairwise.nil, rfl, by simp⟩ ?_
  rintro k h2 ⟨hk, hc2, m, acc, kr2, hpr, hup, hof, hacc⟩
  refine And.intro rfl (And.intro (fun ht => ?_) (fun ht => ?_))
  · have hlt : k < l.length := by omega
    obtain ⟨b, o, rfl⟩ := hv.addr (by omega)
    have hcs := (hv.ext hc2).cells encX_len (i := k) (x := l[k]) (by simp [hlt])
    have hdr : l.drop k = l[k] :: l.drop (k + 1) := List.drop_eq_getElem_cons hlt
    have tk : l.take (k + 1) = l.take k ++ [l[k]] := take_snoc l k hlt
    have hmem : l[k] ∈ l := List.getElem_mem hlt
    have hx := g _ hmem
    have hsm := nv.small _ hmem
    have hkz := nv.keys _ hmem
    generalize hxe : l[k] = x at *
    have hml : m.length = k := by
      have := congrArg List.length hpr
      simp at this; omega
    refine And.intro (by omega) (And.intro ht (Exists.intro (encX x) (And.intro (encX_len x) (And.intro hcs ?_))))
    intro b6 h3 g3
    refine Exists.intro _ (And.intro g3.blk (And.intro (by decide) (And.intro (encX_len x) (And.intro (encX_one x) ?_))))
    intro h4 p4
    have g4 := g3.put p4
    have B4 : Blk h4 b6 (encX x) := by
      have h8 : Blk h4 b6 (splice zeroX 0 (encX x)) := p4.blk
      rw [eight rfl (encX_len x)] at h8
      exact h8
    have c24 := g4.chg
    have kr4 := kr2.ext c24
    have hc4 := hc2.nil c24
    refine Exists.intro _ (And.intro (cell_blk kr4.ks.k rfl) (Exists.intro _ (And.intro (cell_blk kr4.ks.s rfl) (Exists.intro _ (And.intro (cell_blk B4 rfl) ?_)))))
    refine And.intro rfl (Exists.intro (m.map KI.ent) (Exists.intro k (And.intro kr4.map (And.intro (ents_fit m) ?_))))
    rw [hdr] at hof
    rcases mfind_ents x.key m 0 with ⟨hmf, hno⟩ | ⟨j, i, hmf, hj, hik⟩
    rotate_left
    · rw [hmf]
      refine ofK_bad hc4 ?_
      have him : i ∈ m := List.mem_of_getElem? hj
      have : i.pr ∈ (l.take k).map RX.pr := by rw [← hpr]; exact List.mem_map_of_mem him
      obtain ⟨y, hy, hyp⟩ := List.mem_map.1 this
      have hyk : y.key = x.key := by
        have := congrArg Prod.fst hyp
        exact this.trans hik
      rw [hof, ofX, if_pos (.inl (findX_has hup ⟨y, (hacc y).2 hy, hyk⟩))]
    · rw [hmf]
      refine Exists.intro _ (And.intro (cell_blk B4 rfl) ?_)
      refine And.intro rfl (And.intro (fun big => absurd big (by omega)) (fun _ => ?_))
      refine Exists.intro x.vs (And.intro x.len (And.intro (cells_tail B4) ?_))
      refine call_ret (KCheck_calls (hx.ext hc4) hsm) ?_
      rintro r h5 ⟨hr, c45⟩
      have hc5 := hc4.nil c45
      have hfn : (findX x.key acc).2 = false := by
        cases hb : (findX x.key acc).2 with
        | false => rfl
        | true =>
          obtain ⟨y, hy, hyk⟩ := findX_mem hb
          have : y.pr ∈ m.map KI.pr := by rw [hpr]; exact List.mem_map_of_mem ((hacc y).1 hy)
          obtain ⟨i, hi, hip⟩ := List.mem_map.1 this
          have : i.key = y.key := congrArg Prod.fst hip
          exact absurd (this.trans hyk) (hno i hi)
      cases hko : kOK x.thing with
      | false =>
        rw [hko] at hr
        subst hr
        refine ofK_bad hc5 ?_
        rw [hof, ofX, if_pos (.inr hko)]
      | true =>
        rw [hko] at hr
        subst hr
        have B5 := B4.chg c45 (by simp)
        refine Exists.intro x.vs (And.intro x.len (And.intro (cells_tail B5) ?_))
        refine call_ret (copied_calls (hx.ext hc5) hsm.lens) ?_
        rintro _ h6 ⟨⟨us, rfl, tu, hub⟩, c56⟩
        intro b9 h7 g7
        refine Exists.intro _ (And.intro g7.blk (And.intro (by decide) (And.intro tu.len (And.intro (thing_one tu) ?_))))
        intro h8 p8
        have g8 := g7.put p8
        have B8 : Blk h8 b9 us := by
          have h9 : Blk h8 b9 (splice zeroV 0 us) := p8.blk
          rw [seven rfl tu.len] at h9
          exact h9
        have c58 := c56.nil g8.chg
        have kr8 := (kr4.ext c45).ext c58
        have B68 := B5.chg c58 (by simp)
        refine Exists.intro _ (And.intro (cell_blk kr8.ks.k rfl) (Exists.intro _ (And.intro (cell_blk kr8.ks.s rfl) (Exists.intro _ (And.intro (cell_blk B68 rfl) ?_)))))
        refine And.intro rfl (Exists.intro (m.map KI.ent) (Exists.intro k (And.intro kr8.map (And.intro (ents_fit m) ?_))))
        rw [hmf]
        intro h9 p9
        have kr9 := kr8.put p9 hno (by omega) B8 (tu.ext g8.chg) hsm.lens (by omega)
        have hc8 := hc5.nil c58
        refine And.intro rfl (fun z hz => ?_)
        have hz := add_in hz (by omega) (by omega)
        subst hz
        refine And.intro rfl (Exists.intro (k + 1) (And.intro ?_ (And.intro ?_ ?_)))
        · exact ⟨rfl, rfl, rfl, rfl, rfl, trivial⟩
        · refine ⟨by omega, hc8.fresh p9.chg (by simp; omega), _, putX acc x, kr9, ?_, up_putX hup, ?_, fun y => ?_⟩
          · rw [tk, List.map_append, List.map_append, hpr]; rfl
          · rw [hof, ofX, if_neg]
            rintro (h | h)
            · rw [hfn] at h; cases h
            · rw [hko] at h; cases h
          · rw [mem_putX hup, tk, List.mem_append, List.mem_singleton, hacc]
            constructor
            · rintro (h | ⟨h, _⟩)
              · exact .inr h
              · exact .inl h
            · rintro (h | h)
              · refine .inr ⟨h, fun e => ?_⟩
                have := findX_has hup ⟨y, (hacc y).2 h, e⟩
                rw [hfn] at this; cases this
              · exact .inl h
        · omega
  · have hlt : k = l.length := by omega
    subst hlt
    refine And.intro rfl (And.intro (fun big => absurd big (by omega)) (fun _ => ?_))
    refine ⟨hc2, ?_⟩
    rw [hof, List.drop_length, ofX]
    rw [List.take_length] at hpr
    exact ⟨kb, sb, mb, _, m, rfl, kr2, hpr, by omega⟩

end Go.Proofs.YtgmkldaonkbjgaaGreatDoor
namespace Go.Proofs
open Go.RowKit Go.Maps Go.Sort Go.Shelf

/- numbers: mapT=69 keyT=9 -/
def Tryz.keys94_ren : Go.Shelf.Ren := ⟨fun | 7 => 94 | 10 => 148 | n => n, fun | 23 => 69 | 26 => 9 | 3 => 64 | 28 => 143 | 0 => 0 | 27 => 142 | 33 => 146 | 4 => 4 | n => n, fun | n => n⟩
theorem Tryz.keys94 : Go.Proofs.SlLaysZ.n7 Tryz.prog Tryz.keys94_ren := {
  mixed := by kernel_rfl
  f7 := ⟨Tryz.f94.name, by decide, Tryz.func94.trans (congrArg some (by kernel_rfl))⟩
  f10 := ⟨Tryz.f148.name, by decide, Tryz.func148.trans (congrArg some (by kernel_rfl))⟩
  t0 := Tryz.underlying0
  a0 := Tryz.isAgg0
  z0 := Tryz.sizeOf0
  v0 := Tryz.zeroValue0
  t4 := Tryz.underlying4
  a4 := Tryz.isAgg4
  z4 := Tryz.sizeOf4
  v4 := Tryz.zeroValue4
  t23 := Tryz.underlying69
  a23 := Tryz.isAgg69
  z23 := Tryz.sizeOf69
  v23 := Tryz.zeroValue69
  t26 := Tryz.underlying9
  a26 := Tryz.isAgg9
  z26 := Tryz.sizeOf9
  v26 := Tryz.zeroValue9
  t27 := Tryz.underlying142
  a27 := Tryz.isAgg142
  z27 := Tryz.sizeOf142
  v27 := Tryz.zeroValue142
  t28 := Tryz.underlying143
  a28 := Tryz.isAgg143
  z28 := Tryz.sizeOf143
  v28 := Tryz.zeroValue143
  t33 := Tryz.underlying146
  a33 := Tryz.isAgg146
  z33 := Tryz.sizeOf146
  v33 := Tryz.zeroValue146 }

def Tryz.sorted93_ren : Go.Shelf.Ren := ⟨fun | 6 => 93 | 8 => 146 | 9 => 147 | 11 => 172 | 13 => 174 | 12 => 173 | 23 => 197 | 24 => 168 | 14 => 188 | 15 => 189 | 16 => 190 | 17 => 191 | 18 => 192 | 19 => 193 | 20 => 194 | 21 => 195 | 22 => 196 | 25 => 206 | 26 => 207 | 27 => 208 | 28 => 209 | 29 => 210 | 30 => 211 | 31 => 219 | n => n, fun | 26 => 9 | 28 => 143 | 24 => 24 | 0 => 0 | 3 => 3 | 37 => 204 | 48 => 201 | 50 => 167 | 4 => 4 | 40 => 217 | 39 => 216 | 45 => 91 | 5 => 5 | 9 => 9 | 51 => 230 | 55 => 234 | 57 => 242 | 58 => 243 | 33 => 146 | n => n, fun | n => n⟩
theorem Tryz.sorted93 : Go.Proofs.SlLaysZ.n6 Tryz.prog Tryz.sorted93_ren := {
  mixed := by kernel_rfl
  f6 := ⟨Tryz.f93.name, by decide, Tryz.func93.trans (congrArg some (by kernel_rfl))⟩
  f8 := ⟨Tryz.f146.name, by decide, Tryz.func146.trans (congrArg some (by kernel_rfl))⟩
  f11 := ⟨Tryz.f172.name, by decide, Tryz.func172.trans (congrArg some (by kernel_rfl))⟩
  t0 := Tryz.underlying0
  a0 := Tryz.isAgg0
  z0 := Tryz.sizeOf0
  v0 := Tryz.zeroValue0
  t24 := Tryz.underlying24
  a24 := Tryz.isAgg24
  z24 := Tryz.sizeOf24
  v24 := Tryz.zeroValue24
  t26 := Tryz.underlying9
  a26 := Tryz.isAgg9
  z26 := Tryz.sizeOf9
  v26 := Tryz.zeroValue9
  t28 := Tryz.underlying143
  a28 := Tryz.isAgg143
  z28 := Tryz.sizeOf143
  v28 := Tryz.zeroValue143
  i26 := by kernel_rfl }

def Tryz.sort147_ren : Go.Shelf.Ren := ⟨fun | 6 => 147 | 8 => 174 | 9 => 173 | 19 => 197 | 20 => 168 | 21 => 188 | 22 => 189 | 23 => 190 | 24 => 191 | 25 => 192 | 26 => 193 | 27 => 194 | 28 => 195 | 29 => 196 | 36 => 206 | 31 => 207 | 32 => 208 | 37 => 209 | 38 => 210 | 39 => 211 | 41 => 219 | n => n, fun | 27 => 24 | 29 => 9 | 3 => 3 | 32 => 204 | 26 => 24 | 0 => 0 | 44 => 201 | 46 => 167 | 4 => 4 | 36 => 217 | 35 => 216 | 41 => 91 | 5 => 5 | 9 => 9 | 53 => 230 | 57 => 234 | 63 => 242 | 64 => 243 | n => n, fun | n => n⟩
theorem Tryz.sort147 : Go.Proofs.SlLaysM.n6 Tryz.prog Tryz.sort147_ren := {
  mixed := by kernel_rfl
  f6 := ⟨Tryz.f147.name, by decide, Tryz.func147.trans (congrArg some (by kernel_rfl))⟩
  f8 := Tryz.func174.trans (congrArg some (by kernel_rfl))
  f9 := ⟨Tryz.f173.name, by decide, Tryz.func173.trans (congrArg some (by kernel_rfl))⟩
  f19 := Tryz.func197.trans (congrArg some (by kernel_rfl))
  f20 := Tryz.func168.trans (congrArg some (by kernel_rfl))
  f21 := ⟨Tryz.f188.name, by decide, Tryz.func188.trans (congrArg some (by kernel_rfl))⟩
  f22 := ⟨Tryz.f189.name, by decide, Tryz.func189.trans (congrArg some (by kernel_rfl))⟩
  f23 := ⟨Tryz.f190.name, by decide, Tryz.func190.trans (congrArg some (by kernel_rfl))⟩
  f24 := ⟨Tryz.f191.name, by decide, Tryz.func191.trans (congrArg some (by kernel_rfl))⟩
  f25 := ⟨Tryz.f192.name, by decide, Tryz.func192.trans (congrArg some (by kernel_rfl))⟩
  f26 := ⟨Tryz.f193.name, by decide, Tryz.func193.trans (congrArg some (by kernel_rfl))⟩
  f27 := ⟨Tryz.f194.name, by decide, Tryz.func194.trans (congrArg some (by kernel_rfl))⟩
  f28 := ⟨Tryz.f195.name, by decide, Tryz.func195.trans (congrArg some (by kernel_rfl))⟩
  f29 := ⟨Tryz.f196.name, by decide, Tryz.func196.trans (congrArg some (by kernel_rfl))⟩
  f31 := Tryz.func207.trans (congrArg some (by kernel_rfl))
  f32 := Tryz.func208.trans (congrArg some (by kernel_rfl))
  f36 := ⟨Tryz.f206.name, by decide, Tryz.func206.trans (congrArg some (by kernel_rfl))⟩
  f37 := ⟨Tryz.f209.name, by decide, Tryz.func209.trans (congrArg some (by kernel_rfl))⟩
  f38 := ⟨Tryz.f210.name, by decide, Tryz.func210.trans (congrArg some (by kernel_rfl))⟩
  f39 := ⟨Tryz.f211.name, by decide, Tryz.func211.trans (congrArg some (by kernel_rfl))⟩
  f41 := ⟨Tryz.f219.name, by decide, Tryz.func219.trans (congrArg some (by kernel_rfl))⟩
  t0 := Tryz.underlying0
  a0 := Tryz.isAgg0
  z0 := Tryz.sizeOf0
  v0 := Tryz.zeroValue0
  t3 := Tryz.underlying3
  a3 := Tryz.isAgg3
  z3 := Tryz.sizeOf3
  v3 := Tryz.zeroValue3
  t4 := Tryz.underlying4
  a4 := Tryz.isAgg4
  z4 := Tryz.sizeOf4
  v4 := Tryz.zeroValue4
  t5 := Tryz.underlying5
  a5 := Tryz.isAgg5
  z5 := Tryz.sizeOf5
  v5 := Tryz.zeroValue5
  t9 := Tryz.underlying9
  a9 := Tryz.isAgg9
  z9 := Tryz.sizeOf9
  v9 := Tryz.zeroValue9
  t26 := Tryz.underlying24
  a26 := Tryz.isAgg24
  z26 := Tryz.sizeOf24
  v26 := Tryz.zeroValue24
  t27 := Tryz.underlying24
  a27 := Tryz.isAgg24
  z27 := Tryz.sizeOf24
  v27 := Tryz.zeroValue24
  t29 := Tryz.underlying9
  a29 := Tryz.isAgg9
  z29 := Tryz.sizeOf9
  v29 := Tryz.zeroValue9
  t32 := Tryz.underlying204
  a32 := Tryz.isAgg204
  z32 := Tryz.sizeOf204
  v32 := Tryz.zeroValue204
  t35 := Tryz.underlying216
  a35 := Tryz.isAgg216
  z35 := Tryz.sizeOf216
  v35 := Tryz.zeroValue216
  t36 := Tryz.underlying217
  a36 := Tryz.isAgg217
  z36 := Tryz.sizeOf217
  v36 := Tryz.zeroValue217
  t41 := Tryz.underlying91
  a41 := Tryz.isAgg91
  z41 := Tryz.sizeOf91
  v41 := Tryz.zeroValue91
  t44 := Tryz.underlying201
  a44 := Tryz.isAgg201
  z44 := Tryz.sizeOf201
  v44 := Tryz.zeroValue201
  t46 := Tryz.underlying167
  a46 := Tryz.isAgg167
  z46 := Tryz.sizeOf167
  v46 := Tryz.zeroValue167
  t53 := Tryz.underlying230
  a53 := Tryz.isAgg230
  z53 := Tryz.sizeOf230
  v53 := Tryz.zeroValue230
  t57 := Tryz.underlying234
  a57 := Tryz.isAgg234
  z57 := Tryz.sizeOf234
  v57 := Tryz.zeroValue234
  t63 := Tryz.underlying242
  a63 := Tryz.isAgg242
  z63 := Tryz.sizeOf242
  v63 := Tryz.zeroValue242
  t64 := Tryz.underlying243
  a64 := Tryz.isAgg243
  z64 := Tryz.sizeOf243
  v64 := Tryz.zeroValue243 }


theorem Tryz.sorts93 (m : Nat) : AnyZ.SortsIn Tryz.prog Tryz.sorted93_ren Fence.wide m :=
  ⟨fun blk off cap ss W hH hblk hsz => callsIn_wide.2 (AnyM.slices_Sort_string Tryz.sort147 blk off cap ss W hH hblk hsz),
   fun p cap W => callsIn_wide.2 (AnyM.slices_Sort_string_none Tryz.sort147 p cap W)⟩

theorem Tryz.maps_Keys_94 (mb : Option Nat) (W : World) : CallsIn Fence.wide 5 Tryz.prog 94 #[.map mb] W fun e w' => e = .returned (.func (.func 148) #[] #[.pointer (some ⟨W.heap.size, 0, none⟩)]) ∧ w' = W.alloc (.cells #[.map mb] 69) :=
  AnyZ.keys_in Tryz.keys94 Fence.wide 5 trivial rfl mb W

set_option maxHeartbeats 1000000 in
/-- **slices.Sorted[string] AT WHAT maps.Keys[map[string]*tabor/api.Thing,string,*tabor/api.Thing] HANDED BACK FOR A MAP THAT IS NOT nil** ('w': the world AHEAD of maps.Keys' call): A NEW SLICE THAT HOLDS THE MAP's KEYS, SORTED; nil just where it has none; nothing that lay before has turned. -/
theorem Tryz.slices_Sorted_keys_93_94 {H : Type} (b nn : Nat) (D0 : DataW H) (R : Value → Option (DataW H × List MemPlace)) (w : World) (hown : w.ownsMap Tryz.prog 9 R b nn D0) (hmax : Maps.size D0 ≤ maxLen) (hbytes : Maps.size D0 * 16 ≤ 140737488355328) :
    CallsIn Fence.wide 5 Tryz.prog 93 #[.func (.func 148) #[] #[.pointer (some ⟨w.heap.size, 0, none⟩)]] (w.alloc (.cells #[.map (some b)] 69)) fun e w' => ∃ (v : Value) (ss : List (List UInt8)), e = .returned v ∧ ss.Perm (strKeys D0) ∧
      w'.ownsRow (w.alloc (.cells #[.map (some b)] 69)).heap.size 9 1 v ss.length ((ss.mergeSort (fun x y => decide (x ≤ y))).map encStr) ∧ (v = .slice none 0 0 ↔ ss = []) ∧ Below (w.alloc (.cells #[.map (some b)] 69)).heap.size (w.alloc (.cells #[.map (some b)] 69)) w' := by
  have hbl := hown.lt
  have hseq : SeqGives Fence.wide 2 Tryz.prog 148 #[.pointer (some ⟨w.heap.size, 0, none⟩)] encStr (fun ss => ss.Perm (strKeys D0)) (Maps.size D0) (w.alloc (.cells #[.map (some b)] 69)) :=
    AnyZ.keys_gives (ρ := Tryz.keys94_ren) { Tryz.keys94 with } Fence.wide _ trivial rfl (by omega) w.heap.size b nn D0 _ (by simp) (by simp) (by
      obtain ⟨es, clock, hb, Ft, hs, hD⟩ := hown
      exact ⟨es, clock, (Below.heap_alloc _ _ b hbl).trans hb, Ft, hs, hD⟩)
  exact AnyZ.sorted_in Tryz.sorted93 Fence.wide 5 trivial trivial trivial trivial rfl (by omega) (Tryz.sorts93 _) (enters_of Tryz.func147 (by kernel_rfl) rfl) 148 #[.pointer (some ⟨w.heap.size, 0, none⟩)] trivial (enters_of Tryz.func148 (by kernel_rfl) rfl) _ _ hmax hbytes _ hseq

end Go.Proofs
namespace Go.Proofs.YtgmkldaonkbjgaaGreatDoor
open Go Go.Sx Go.Proofs.YtgmkldaonkbjgaaGreatDoor.C

theorem bl_lt : ∀ a b : List UInt8, Op.bytesLess a b = true ↔ a < b
  | [], [] => by simp [Op.bytesLess]
  | a :: x, [] => by simp [Op.bytesLess]
  | [], b :: y => by simp [Op.bytesLess]
  | a :: x, b :: y => by
    rw [List.cons_lt_cons_iff, ← bl_lt x y]
    simp only [Op.bytesLess, Bool.or_eq_true, Bool.and_eq_true, decide_eq_true_eq, beq_iff_eq]

abbrev bytesL (b : ByteArray) : List UInt8 := b.data.toList
abbrev ofL (l : List UInt8) : ByteArray := ⟨l.toArray⟩

def keysHeap (h : Heap) (mb : Nat) : Heap := h.push (.cells #[.map (some mb)] 69)

theorem keysHeap_chg (h : Heap) (mb : Nat) : Chg [] h (keysHeap h mb) := by
  refine ⟨by simp [keysHeap], fun k hk _ => ?_⟩
  unfold keysHeap
  rw [Array.getElem?_push, if_neg (by omega)]

theorem mKeys_calls {h : Heap} {mb : Nat} : CallsH Tryz.prog 94 [.map (some mb)] h (Ret fun r h' => r = .func (.func 148) #[] #[ptr h.size] ∧ h' = keysHeap h mb) := by
  refine ⟨by kernel_rfl, fun w hw => ?_⟩
  refine ((callsIn_wide (n := 5)).1 (Tryz.maps_Keys_94 (some mb) w)).mono ?_
  rintro e w' ⟨rfl, rfl⟩
  refine ⟨?_, by simp, rfl, rfl, rfl⟩
  subst hw
  exact ⟨rfl, rfl⟩

def RN : Value → Option (DataW Unit × List MemPlace) := fun _ => some (.nil, [])

theorem key_reads (s : ByteArray) (hs : s.size ≤ 1048576) : keyOf Tryz.prog 9 (.string s) = some (.string (bytesL s)) := by
  have hu : Tryz.prog.underlying 9 = some .string := Tryz.underlying9
  unfold keyOf
  rw [hu]
  simp only [mapKey, hu]
  rw [if_pos]
  have : (1048576 : Nat) ≤ maxLen := by decide
  exact Nat.le_trans hs this

theorem rg_ent (i : KI) (hs : i.key.size ≤ 1048576) : Go.WideElems.rg Tryz.prog 9 RN i.ent = (.string (bytesL i.key), .nil) := by
  unfold Go.WideElems.rg Go.WideElems.rd
  rw [show i.ent.key = .string i.key from rfl, key_reads _ hs]
  rfl

theorem str_inj_nodup : ∀ {m : List KI}, (m.map KI.key).Nodup → ((m.map KI.ent).map (·.key)).Nodup := by
  intro m h
  rw [List.map_map]
  have e : (MapEntry.key ∘ KI.ent) = Value.string ∘ KI.key := rfl
  rw [e, ← List.map_map]
  exact (List.Pairwise.map Value.string (fun a b (hab : a ≠ b) => fun he => hab (by simpa using he)) h)

theorem own_of {w : World} {kb sb mb c : Nat} {m : List KI} (x : KR w.heap kb sb mb c m) : w.ownsMap Tryz.prog 9 RN mb m.length (.map ((((⟨m.map KI.ent⟩ : Array MapEntry)).toList.map (Go.WideElems.rg Tryz.prog 9 RN)).foldr DataW.insert []) : DataW Unit) := by
  have hl := x.len
  refine ⟨⟨m.map KI.ent⟩, c, x.map, ⟨?_, ⟨?_, ?_, ?_⟩, ?_⟩, by simp, rfl⟩
  · have : (65536 : Nat) ≤ maxLen := by decide
    simp; omega
  · intro e he
    obtain ⟨i, hi, rfl⟩ := List.mem_map.1 he
    exact x.born i hi
  · have : ((⟨m.map KI.ent⟩ : Array MapEntry).toList.map (·.born)) = m.map KI.born := by simp [KI.ent, Function.comp_def]
    rw [this]; exact x.borns
  · exact str_inj_nodup x.nodup
  · intro e he
    obtain ⟨i, hi, rfl⟩ := List.mem_map.1 he
    refine ⟨(.string (bytesL i.key), .nil), ?_⟩
    unfold Go.WideElems.rd
    rw [show i.ent.key = .string i.key from rfl, key_reads _ (x.keys i hi)]
    rfl

theorem strKeys_perm {m : List KI} (hk : ∀ i ∈ m, i.key.size ≤ 1048576) : (strKeys (.map ((((⟨m.map KI.ent⟩ : Array MapEntry)).toList.map (Go.WideElems.rg Tryz.prog 9 RN)).foldr DataW.insert []) : DataW Unit)).Perm (m.map fun i => bytesL i.key) := by
  unfold strKeys
  have h1 := Go.WideShapes.sorted_perm (((⟨m.map KI.ent⟩ : Array MapEntry)).toList.map (Go.WideElems.rg Tryz.prog 9 RN))
  refine (h1.map _).trans ?_
  rw [List.map_map, List.map_map]
  refine List.Perm.of_eq (List.map_congr_left fun i hi => ?_)
  simp only [Function.comp]
  rw [rg_ent i (hk i hi)]
  rfl

theorem own_all {w : World} {kb sb mb c : Nat} {m : List KI} (x : KR w.heap kb sb mb c m) : ∃ D : DataW Unit, w.ownsMap Tryz.prog 9 RN mb m.length D ∧ (strKeys D).Perm (m.map fun i => bytesL i.key) ∧ Go.Maps.size D = m.length :=
  ⟨_, own_of x, strKeys_perm x.keys, by rw [Go.Maps.size_eq, Go.length_sorted]; simp⟩

theorem sSorted_calls {h : Heap} {kb sb mb c : Nat} {m : List KI} (x : KR h kb sb mb c m) :
    CallsH Tryz.prog 93 [.func (.func 148) #[] #[ptr h.size]] (keysHeap h mb) (Ret fun r h' => ∃ L : List ByteArray, SL encS h' r L ∧ L.Perm (m.map KI.key) ∧ L.Pairwise (fun a b => sless a b = true) ∧ (∀ b ∈ vblk r, h.size < b) ∧ Chg [] (keysHeap h mb) h') := by
  refine ⟨by kernel_rfl, fun w hw => ?_⟩
  let w0 : World := { w with heap := h }
  have ew : w0.alloc (.cells #[.map (some mb)] 69) = w := by
    show ({ w with heap := h.push _ } : World) = w
    rw [show h.push (.cells #[.map (some mb)] 69) = w.heap from hw.symm]
  have x0 : KR w0.heap kb sb mb c m := x
  have hl := x.len
  obtain ⟨D, hown, hsk, hsz⟩ := own_all x0
  have h65 : (65536 : Nat) ≤ maxLen := by decide
  have key := Tryz.slices_Sorted_keys_93_94 (H := Unit) mb m.length D RN w0 hown (by omega) (by omega)
  rw [ew] at key
  refine ((callsIn_wide (n := 5)).1 key).mono ?_
  rintro e w' ⟨v, ss, rfl, hp, hrow, hnil, hb⟩
  refine ⟨?_, by simp, hb.os, hb.output, hb.tape⟩
  have hperm : ss.Perm (m.map fun i => bytesL i.key) := hp.trans hsk
  have hms : (ss.mergeSort leB).Perm (m.map fun i => bytesL i.key) := (List.mergeSort_perm ss leB).trans hperm
  have tr : ∀ a b c : List UInt8, leB a b = true → leB b c = true → leB a c = true := fun a b c h1 h2 => by simp only [leB, decide_eq_true_eq] at *; exact List.le_trans h1 h2
  have to : ∀ a b : List UInt8, (leB a b || leB b a) = true := fun a b => by simp only [leB, Bool.or_eq_true, decide_eq_true_eq]; exact List.le_total a b
  have hpw : (ss.mergeSort leB).Pairwise (fun a b => leB a b = true) := List.pairwise_mergeSort tr to ss
  have hnd : (ss.mergeSort leB).Nodup := by
    refine hms.symm.nodup ?_
    have : (m.map fun i => bytesL i.key) = (m.map KI.key).map bytesL := by rw [List.map_map]; rfl
    rw [this]
    exact List.Pairwise.map bytesL (fun a b (hab : a ≠ b) => fun he => hab (by cases a; cases b; simp_all [bytesL])) x.nodup
  have hsize : w.heap.size = h.size + 1 := by rw [hw]; simp [keysHeap]
  refine ⟨(ss.mergeSort leB).map ofL, ?_, ?_, ?_, ?_, ?_⟩
  · -- the slice
    obtain ⟨hlen, hr⟩ := hrow
    have hsl : (ss.mergeSort leB).length = ss.length := (List.mergeSort_perm ss leB).length_eq
    rcases hr with ⟨rfl, hn⟩ | ⟨g, cap, cur, rfl, hg, hcur, hcap, hmax, hcs, htk⟩
    · have : (ss.mergeSort leB).map ofL = [] := by rw [List.map_eq_nil_iff]; exact List.length_eq_zero_iff.1 (hsl.trans hn)
      rw [this]; exact SL.nil
    · refine ⟨some ⟨g, 0, none⟩, cap, by rw [List.length_map, hsl], by rw [List.length_map, hsl]; exact hcap, ?_⟩
      intro i v hv
      have hfm : ∀ l : List (List UInt8), (l.map ofL).flatMap encS = l.map encStr := by
        intro l
        induction l with
        | nil => rfl
        | cons a l ih => rw [List.map_cons, List.flatMap_cons, ih]; rfl
      rw [hfm] at hv
      have htk' : cur.toList.take (ss.length * 1) = (ss.mergeSort leB).map encStr := htk
      rw [← htk'] at hv
      rw [Nat.zero_add]
      unfold Sx.cell
      rw [hcur]
      simp only
      rw [List.getElem?_take] at hv
      split at hv
      · simpa using hv
      · cases hv
  · have : m.map KI.key = (m.map fun i => bytesL i.key).map ofL := by rw [List.map_map]; rfl
    rw [this]
    exact hms.map _
  · refine List.Pairwise.map ofL (fun a b (hab : leB a b = true ∧ a ≠ b) => ?_) (hpw.and hnd)
    rw [sless_data, bl_lt]
    show a < b
    obtain ⟨h1, h2⟩ := hab
    simp only [leB, decide_eq_true_eq] at h1
    have hb : Op.bytesLess b a ≠ true := fun h => h1 ((bl_lt b a).1 h)
    rcases bl_total h2 with h | h
    · exact (bl_lt a b).1 h
    · exact absurd h hb
  · intro b hb'
    obtain ⟨_, hr⟩ := hrow
    rcases hr with ⟨rfl, _⟩ | ⟨g, cap, cur, rfl, hg, _⟩
    · simp [vblk, ablk] at hb'
    · simp [vblk, ablk] at hb'
      subst hb'
      omega
  · refine ⟨by rw [← hw]; exact hb.size, fun k hk _ => ?_⟩
    rw [← hw] at hk ⊢
    exact hb.block k hk

end Go.Proofs.YtgmkldaonkbjgaaGreatDoor
namespace Go.Proofs.YtgmkldaonkbjgaaGreatDoor
open Go Go.Sx Go.Proofs.YtgmkldaonkbjgaaGreatDoor.C

theorem yield_ret {P : Program} {l : Nat} {vs : List Value} {h : Heap} {Q K : Value → Heap → Prop} {Qp : List PanicEntry → Heap → Prop} (hc : YieldH P l vs h (Ret Q)) (hk : ∀ v h', Q v h' → K v h') :
    YieldH P l vs h (after K Qp) :=
  hc.mono fun e h' he => by cases e <;> first | exact hk _ _ he | exact he.elim

structure Sorted (m : List KI) (W : List (ByteArray × Thing)) : Prop where
  up : W.Pairwise fun a b => sless a.1 b.1 = true
  mem : ∀ p, p ∈ W ↔ p ∈ m.map KI.pr

theorem sless_asymm (a b : ByteArray) (h : sless a b = true) : ¬ sless b a = true := fun h2 => by
  have := sless_trans h h2
  rw [sless_irrefl] at this; cases this

theorem sorted_keys {m : List KI} {W : List (ByteArray × Thing)} {L : List ByteArray} (hW : Sorted m W) (hp : L.Perm (m.map KI.key)) (hl : L.Pairwise fun a b => sless a b = true) : L = W.map Prod.fst := by
  refine up_ext (lt := fun a b => sless a b = true) sless_asymm hl (List.Pairwise.map Prod.fst (fun _ _ h => h) hW.up) fun x => ?_
  rw [hp.mem_iff, List.mem_map, List.mem_map]
  constructor
  · rintro ⟨i, hi, rfl⟩
    exact ⟨i.pr, (hW.mem _).2 (List.mem_map_of_mem hi), rfl⟩
  · rintro ⟨p, hp, rfl⟩
    obtain ⟨i, hi, rfl⟩ := List.mem_map.1 ((hW.mem _).1 hp)
    exact ⟨i, hi, rfl⟩

theorem SL.keep {α : Type} {enc : α → List Value} {h h' : Heap} {v : Value} {l : List α} (hs : SL enc h v l) (hk : ∀ b ∈ vblk v, h'[b]? = h[b]?) : SL enc h' v l := by
  obtain ⟨a, c, rfl, h1, h2⟩ := hs
  refine ⟨a, c, rfl, h1, ?_⟩
  cases a with
  | none => exact h2
  | some a =>
    obtain ⟨b, o, sp⟩ := a
    cases sp with
    | some q => exact h2
    | none =>
      intro i v hv
      have := h2 i v hv
      unfold Sx.cell at this ⊢
      rw [hk b (by simp [vblk, ablk])]; exact this

theorem iter_calls {h : Heap} {l b1 kb sb mb c : Nat} {m : List KI} {W : List (ByteArray × Thing)} (hW : Sorted m W) (J : Nat → Nat → Heap → Prop) (Je : Heap → Prop) (B0 : Blk h b1 [ptr kb]) (kr0 : KR h kb sb mb c m)
    (hJ : ∀ p h', h.size ≤ p → p < h'.size → Chg [] h h' → J p 0 h')
    (hB : ∀ p k h', J p k h' → Blk h' b1 [ptr kb] ∧ KR h' kb sb mb c m) (hext : ∀ p k h' h'', J p k h' → Chg [] h' h'' → J p k h'')
    (hy : ∀ p k h' us (hk : k < W.length), J p k h' → TH h' us W[k].2 → YieldH Tryz.prog l [.string W[k].1, .agg ⟨us⟩] h' (Ret fun v h'' => (v = .bool true ∧ J p (k + 1) h'' ∧ h''[p]? = h'[p]?) ∨ (v = .bool false ∧ Je h''))) :
    CallsH Tryz.prog 92 [.func (.yield l) #[] #[], ptr b1] h (Ret fun _ h' => (∃ p, J p W.length h') ∨ Je h') := by
  refine f92_calls (by simp) ?_
  refine Exists.intro _ (And.intro (cell_blk B0 rfl) ?_)
  refine call_ret (none_calls kr0.ks) ?_
  rintro _ h9 ⟨rfl, e9⟩
  have e9 := e9.symm
  subst e9
  refine Exists.intro _ (And.intro (cell_blk B0 rfl) (Exists.intro _ (And.intro (cell_blk kr0.ks.k rfl) (Exists.intro _ (And.intro (cell_blk kr0.ks.s rfl) ?_)))))
  refine call_ret mKeys_calls ?_
  rintro _ h2 ⟨rfl, rfl⟩
  refine call_ret (sSorted_calls kr0) ?_
  rintro v h3 ⟨L, hsl, hperm, hpw, hfr, hc3⟩
  have hL := sorted_keys hW hperm hpw
  have hWl : W.length ≤ 65536 := by
    have h1 := hperm.length_eq
    rw [hL] at h1
    simp at h1
    have := kr0.len
    omega
  obtain ⟨a, cc, rfl, hcc⟩ := hsl.form
  have hLl : L.length = W.length := by rw [hL]; simp
  have hc03 : Chg [] h h3 := (keysHeap_chg h mb).nil hc3
  have hz : h.size < h3.size := by have := hc3.size; simp [keysHeap] at this; omega
  obtain ⟨p, hp1, hp2, hp3⟩ : ∃ p, h.size ≤ p ∧ p < h3.size ∧ (0 < L.length → ∀ b ∈ ablk a, b = p) := by
    by_cases h0 : L.length = 0
    · exact ⟨h.size, Nat.le_refl _, hz, fun h => by omega⟩
    · obtain ⟨b, o, e⟩ := hsl.addr (by omega)
      cases e
      have hcs := hsl.cells encS_len (i := 0) (x := L[0]'(by omega)) (by simp)
      have := cell_lt (hcs 0 _ rfl)
      exact ⟨b, by have := hfr b (by simp [vblk, ablk]); omega, this, by simp [ablk]⟩
  refine loop_intro (fun k : Nat => [(0, .func (.yield l) #[] #[]), (1, ptr b1), (16, .slice a L.length cc), (17, .int .i64 L.length), (18, .int .i64 k)]) (fun k h' => k ≤ W.length ∧ J p k h' ∧ SL encS h' (.slice a L.length cc) L) (fun k => W.length - k) 0
    ⟨rfl, rfl, rfl, rfl, rfl, trivial⟩ ⟨Nat.zero_le _, hJ p h3 hp1 hp2 hc03, hsl⟩ ?_
  rintro k h4 ⟨hk, hJ4, hs4⟩
  obtain ⟨B4, kr4⟩ := hB p k h4 hJ4
  refine And.intro rfl (And.intro (fun ht => ?_) (fun ht => ?_))
  · have hlt : k < W.length := by omega
    have hltL : k < L.length := by omega
    obtain ⟨b, o, rfl⟩ := hs4.addr (by omega)
    have hcs := hs4.cells encS_len (i := k) (x := L[k]) (by simp [hltL])
    have hLk : L[k] = W[k].1 := by
      have : L[k]? = (W.map Prod.fst)[k]? := by rw [← hL]
      rw [List.getElem?_eq_getElem hltL, List.getElem?_map, List.getElem?_eq_getElem hlt] at this
      simpa using this
    rw [hLk] at hcs
    refine And.intro (by omega) (And.intro (by omega) (Exists.intro _ (And.intro (hcs 0 _ rfl) ?_)))
    refine Exists.intro _ (And.intro (cell_blk B4 rfl) (Exists.intro _ (And.intro (cell_blk kr4.ks.k rfl) (Exists.intro _ (And.intro (cell_blk kr4.ks.s rfl) ?_)))))
    refine And.intro rfl (Exists.intro (m.map KI.ent) (Exists.intro c (And.intro kr4.map (And.intro (ents_fit m) ?_))))
    obtain ⟨i, hi, hip⟩ := List.mem_map.1 ((hW.mem W[k]).1 (List.getElem_mem hlt))
    have hik : i.key = W[k].1 := congrArg Prod.fst hip
    have hit : i.thing = W[k].2 := congrArg Prod.snd hip
    rcases mfind_ents W[k].1 m 0 with ⟨_, hno⟩ | ⟨j, i', hmf, hj, hik'⟩
    · exact absurd hik (hno i hi)
    have hi' : i' ∈ m := List.mem_of_getElem? hj
    have ei : i' = i := by
      have hnd := kr4.nodup
      have : ∀ {m : List KI}, (m.map KI.key).Nodup → i ∈ m → i' ∈ m → i'.key = i.key → i' = i := by
        intro m
        induction m with
        | nil => intro _ h; simp at h
        | cons x m ih =>
          intro hn h1 h2 he
          rw [List.map_cons, List.nodup_cons] at hn
          rcases List.mem_cons.1 h1 with e1 | g1
          · rcases List.mem_cons.1 h2 with e2 | g2
            · rw [e1, e2]
            · refine absurd ?_ hn.1
              rw [← e1, ← he]; exact List.mem_map_of_mem g2
          · rcases List.mem_cons.1 h2 with e2 | g2
            · refine absurd ?_ hn.1
              rw [← e2, he]; exact List.mem_map_of_mem g1
            · exact ih hn.2 g1 g2 he
      exact this hnd hi hi' (hik'.trans hik.symm)
    subst ei
    rw [hmf]
    obtain ⟨Bi, ti, ni⟩ := kr4.here i' hi
    refine Exists.intro i'.vs (And.intro ti.len (And.intro (cells_blk Bi) ?_))
    refine call_ret (copied_calls ti ni) ?_
    rintro _ h5 ⟨⟨us, rfl, tu, hus⟩, hc5⟩
    rw [hit] at tu
    refine yield_ret (hy p k h5 us hlt (hext p k _ _ hJ4 hc5) tu) ?_
    rintro r h6 (⟨rfl, hJ6, hp6⟩ | ⟨rfl, hJe⟩)
    · refine And.intro rfl (fun z hz => ?_)
      have hz := add_in hz (by omega) (by omega)
      subst hz
      refine And.intro rfl (Exists.intro (k + 1) (And.intro ?_ (And.intro ?_ ?_)))
      · exact ⟨rfl, rfl, rfl, rfl, rfl, trivial⟩
      · refine ⟨by omega, hJ6, SL.keep (hs4.ext hc5) fun b' hb' => ?_⟩
        rw [hp3 (by omega) b' hb']; exact hp6
      · omega
    · exact .inr hJe
  · have hlt : k = W.length := by omega
    subst hlt
    exact .inl ⟨p, hJ4⟩

theorem All_calls {h : Heap} {kb : Nat} : CallsH Tryz.prog 39 [ptr kb] h (Ret fun u h' => ∃ b1, u = .func (.func 92) #[] #[ptr b1] ∧ Grow h h' b1 [ptr kb]) := by
  refine f39_calls (by simp) ?_
  intro b1 h1 g1
  exact ⟨b1, rfl, g1⟩

end Go.Proofs.YtgmkldaonkbjgaaGreatDoor
namespace Go.Proofs.YtgmkldaonkbjgaaGreatDoor
open Go Go.Sx Go.Proofs.YtgmkldaonkbjgaaGreatDoor.C

theorem loopB_chg {S : List Nat} {h h' : Heap} {l : Nat} {r : Loop} {st : LoopState} {p : Option Go.Code} (hl : LoopB h l r st p) (hc : Chg S h h') (hn : l ∉ S) : LoopB h' l r st p := ⟨get_chg hl.at_ hc hn⟩

structure Round (h0 : Heap) (l D b1 kb : Nat) (r : Loop) (p : Nat) (h : Heap) : Prop where
  loop : LoopB h l r .ready none
  mark : h[D]? = some (.deferred (some []))
  b1 : Blk h b1 [ptr kb]
  chg : Chg [] h0 h
  lt : l < p
  pn : p < h.size

theorem Round.ext {h0 h h' : Heap} {l D b1 kb : Nat} {r : Loop} {p : Nat} (x : Round h0 l D b1 kb r p h) (hc : Chg [] h h') : Round h0 l D b1 kb r p h' :=
  ⟨loopB_chg x.loop hc (by simp), get_chg x.mark hc (by simp), x.b1.chg hc (by simp), x.chg.nil hc, x.lt, Nat.lt_of_lt_of_le x.pn hc.size⟩

theorem getPr {w : List RX} {k : Nat} (hk : k < (w.map RX.pr).length) (hk' : k < w.length) : (w.map RX.pr)[k] = (w[k].key, w[k].thing) := by
  rw [List.getElem_map]; rfl

end Go.Proofs.YtgmkldaonkbjgaaGreatDoor
namespace Go.Proofs.YtgmkldaonkbjgaaGreatDoor
open Go Go.Sx Go.Proofs.YtgmkldaonkbjgaaGreatDoor.C

structure Eff where
  op : Int
  key : ByteArray
  name : ByteArray
  text : ByteArray
  num : Int

def encD (e : Eff) : List Value := [.int .i64 e.op, .string e.key, .string e.name, .string e.text, .int .i64 e.num]
theorem encD_len (e : Eff) : (encD e).length = 5 := rfl
theorem encD_one (e : Eff) : ∀ u ∈ encD e, u.oneCell' = true := by
  intro u hu
  simp only [encD, List.mem_cons, List.not_mem_nil, or_false] at hu
  rcases hu with rfl | rfl | rfl | rfl | rfl <;> rfl

structure DSmall (d : List Eff) : Prop where
  len : d.length ≤ 60
  each : ∀ e ∈ d, e.key.size ≤ 300 ∧ e.name.size ≤ 300 ∧ e.text.size ≤ 300

structure XFit (l : List RX) : Prop where
  len : l.length < 4611686018427387904
  keys : ∀ x ∈ l, x.key.size < 4611686018427387904
  fits : ∀ x ∈ l, Fits x.thing
  sized : ∀ x ∈ l, Sized x.thing

structure DFit (d : List Eff) : Prop where
  len : d.length < 4611686018427387904
  each : ∀ e ∈ d, e.key.size < 4611686018427387904 ∧ e.name.size < 4611686018427387904 ∧ e.text.size < 4611686018427387904

def OfR (h : Heap) (l : List RX) (r : Value) (h' : Heap) : Prop := Chg [] h h' ∧ match ofX [] l with
  | none => r = .tuple #[.slice none 0 0, .int .i64 2]
  | some k => ∃ u, r = .tuple #[u, .int .i64 0] ∧ OL encX 8 h' u k ∧ ∀ b ∈ vblk u, h.size ≤ b

theorem ofR_bad {h h' : Heap} {l : List RX} (hc : Chg [] h h') (hn : ofX [] l = none) : OfR h l (.tuple #[.slice none 0 0, .int .i64 2]) h' := by
  refine ⟨hc, ?_⟩
  rw [hn]

theorem ROf_calls {h : Heap} {v : Value} {l : List RX} (hv : SL encX h v l) (g : GX h l) (nv : NVast l) :
    CallsH Tryz.prog 16 [v] h (Ret (OfR h l)) := by
  have hl := nv.len
  obtain ⟨a, c, rfl, hlc⟩ := hv.form
  refine f16_calls (by simp) ?_
  refine loop_intro (fun i : Nat × Option Addr × Nat × List RX => [(0, .slice a l.length c), (4, .slice i.2.1 i.2.2.2.length i.2.2.1), (5, .int .i64 i.1)])
    (fun i h' => i.1 ≤ l.length ∧ Chg [] h h' ∧ OL encX 8 h' (.slice i.2.1 i.2.2.2.length i.2.2.1) i.2.2.2 ∧ (∀ b ∈ ablk i.2.1, h.size ≤ b) ∧ ofX [] l = ofX i.2.2.2 (l.drop i.1) ∧ i.2.2.2.length ≤ i.1 ∧ KeysFit i.2.2.2) (fun i => l.length - i.1) (0, none, 0, [])
    ⟨rfl, rfl, rfl, trivial⟩ ⟨Nat.zero_le _, Chg.refl h, OL.nil, by simp [ablk], rfl, Nat.le_refl _, by intro x hx; simp at hx⟩ ?_
  rintro ⟨k, a2, c2, acc⟩ h1 ⟨hk, hc1, ho, hfr, hof, hal, hkf⟩
  simp only at hk ho hfr hof hal hkf
  have hv1 := hv.ext hc1
  refine And.intro rfl (And.intro (fun ht => ?_) (fun ht => ?_))
  · have hlt : k < l.length := by omega
    obtain ⟨b, o, rfl⟩ := hv1.addr (by omega)
    have hcs := hv1.cells encX_len (i := k) (x := l[k]) (by simp [hlt])
    have hdr : l.drop k = l[k] :: l.drop (k + 1) := List.drop_eq_getElem_cons hlt
    have hmem : l[k] ∈ l := List.getElem_mem hlt
    have hkz := nv.keys _ hmem
    rw [hdr] at hof
    refine And.intro (by omega) (And.intro (by omega) (Exists.intro _ (And.intro (hcs 0 _ rfl) ?_)))
    refine call_ret (Find_calls l[k].key ho.sl (by omega) (by omega) hkf) ?_
    rintro _ h9 ⟨rfl, e9⟩
    have e9 := e9.symm
    subst e9
    cases hb : (findX l[k].key acc).2 with
    | true => exact ofR_bad hc1 (by rw [hof, ofX, if_pos (.inl hb)])
    | false =>
      refine And.intro (by omega) (And.intro (by omega) (Exists.intro _ (And.intro (hcs 0 _ rfl) ?_)))
      refine And.intro rfl (And.intro (fun big => absurd big (by omega)) (fun _ => ?_))
      refine And.intro (by omega) (And.intro (by omega) (Exists.intro l[k].vs (And.intro l[k].len (And.intro (cells_vs hcs) ?_))))
      refine call_ret (RCheck_calls ((g.ext hc1) _ hmem) (nv.small _ hmem)) ?_
      rintro r2 h2 ⟨hr2, hc2⟩
      cases hko : kOK l[k].thing with
      | false =>
        rw [hko] at hr2
        subst hr2
        exact ofR_bad (hc1.nil hc2) (by rw [hof, ofX, if_pos (.inr hko)])
      | true =>
        rw [hko] at hr2
        subst hr2
        have hcs2 := (hv1.ext hc2).cells encX_len (i := k) (x := l[k]) (by simp [hlt])
        refine And.intro (by omega) (And.intro (by omega) (Exists.intro _ (And.intro (hcs2 0 _ rfl) ?_)))
        refine And.intro (by omega) (And.intro (by omega) (Exists.intro l[k].vs (And.intro l[k].len (And.intro (cells_vs hcs2) ?_))))
        refine call_ret (Put_calls l[k] (ho.ext hc2).sl (by omega) (by omega) hkf) ?_
        rintro v3 h3 ⟨ho3, hb3, hc3⟩
        obtain ⟨a3, c3, rfl, hcc3⟩ := ho3.sl.form
        have hpl := putX_len acc l[k]
        refine And.intro rfl (fun z hz => ?_)
        have hz := add_in hz (by omega) (by omega)
        subst hz
        refine And.intro rfl (Exists.intro (k + 1, a3, c3, putX acc l[k]) (And.intro ?_ (And.intro ?_ ?_)))
        · exact ⟨rfl, rfl, rfl, trivial⟩
        · have z1 := hc1.size
          have z2 := hc2.size
          refine ⟨by simp only; omega, (hc1.nil hc2).nil hc3, ho3, fun b hb => by have := hb3 b hb; omega, ?_, by simp only; omega, fun x hx => ?_⟩
          · rw [hof, ofX, if_neg]
            rintro (h | h)
            · rw [hb] at h; cases h
            · rw [hko] at h; cases h
          · have hx : x ∈ putX acc l[k] := hx
            unfold putX at hx
            rcases List.mem_append.1 hx with hx | hx
            · rcases List.mem_append.1 hx with hx | hx
              · exact hkf x (List.mem_of_mem_take hx)
              · simp at hx
                subst hx
                omega
            · exact hkf x (List.mem_of_mem_drop hx)
        · simp only; omega
  · have hkl : k = l.length := by omega
    subst hkl
    refine And.intro rfl (And.intro (fun big => absurd big (by omega)) (fun _ => ?_))
    refine ⟨hc1, ?_⟩
    rw [hof, List.drop_length, ofX]
    exact ⟨_, rfl, ho, hfr⟩

end Go.Proofs.YtgmkldaonkbjgaaGreatDoor
namespace Go.Proofs.YtgmkldaonkbjgaaGreatDoor
open Go Go.Sx Go.Proofs.YtgmkldaonkbjgaaGreatDoor.C

theorem sorted_of {m : List KI} {l k : List RX} (hpr : m.map KI.pr = l.map RX.pr) (hk : ofX [] l = some k) : Sorted m (k.map RX.pr) := by
  obtain ⟨h1, h2, _⟩ := ofX_ok (acc := []) List.Pairwise.nil hk
  refine ⟨List.Pairwise.map RX.pr (fun _ _ h => h) h1, fun p => ?_⟩
  rw [hpr, List.mem_map, List.mem_map]
  constructor
  · rintro ⟨x, hx, rfl⟩
    exact ⟨x, by simpa using (h2 x).1 hx, rfl⟩
  · rintro ⟨x, hx, rfl⟩
    exact ⟨x, (h2 x).2 (by simp [hx]), rfl⟩

end Go.Proofs.YtgmkldaonkbjgaaGreatDoor
namespace Go.Proofs.YtgmkldaonkbjgaaGreatDoor
open Go Go.Sx Go.Proofs.YtgmkldaonkbjgaaGreatDoor.C

section
variable {α : Type} {eq lt : α → Bool} {y : α}

def putF (eq lt : α → Bool) (y : α) : List α → Bool → List α
  | [], d => if d then [] else [y]
  | x :: l, d => if eq x then putF eq lt y l d else if !d && lt x then y :: x :: putF eq lt y l true else x :: putF eq lt y l d
def delF (eq : α → Bool) (l : List α) : List α := l.filter fun x => !eq x

end

section
variable {α : Type} {nm : α → ByteArray} {name : ByteArray}

end

theorem ahead_tr (a b c : Rank) (h1 : aheadR a b = true) (h2 : aheadR b c = true) : aheadR a c = true := by
  simp only [aheadR, Bool.or_eq_true, decide_eq_true_eq, Bool.and_eq_true] at h1 h2 ⊢
  rcases h1 with h1 | ⟨h1, h1'⟩ <;> rcases h2 with h2 | ⟨h2, h2'⟩
  · left; omega
  · left; omega
  · left; omega
  · right; exact ⟨by omega, sless_trans h1' h2'⟩

def doneT (t : Thing) (e : Eff) : Thing × Int :=
  if e.op = 1 then (zeroT, 0) else
  if e.op = 2 then (textT e.text, 0) else
  if e.op = 3 then ({ t with hasU := true, unt := e.num }, 0) else
  if e.op = 4 then ({ t with hasU := false, unt := 0 }, 0) else
  if e.op = 5 then ({ t with pairs := putF (fun x => decide (x.name = e.name)) (fun x => sless e.name x.name) ⟨e.name, e.text⟩ t.pairs false }, 0) else
  if e.op = 6 then ({ t with pairs := delF (fun x => decide (x.name = e.name)) t.pairs }, if t.pairs.any (fun x => decide (x.name = e.name)) then 0 else 5) else
  if e.op = 7 then ({ t with list := e.text :: t.list }, 0) else
  if e.op = 8 then ({ t with list := t.list ++ [e.text] }, 0) else
  if e.op = 9 then ({ t with list := t.list.tail }, 0) else
  if e.op = 10 then ({ t with list := t.list.dropLast }, 0) else
  if e.op = 11 then (if 0 ≤ e.num ∧ e.num < t.list.length then ({ t with list := t.list.set e.num.toNat e.text }, 0) else (t, 4)) else
  if e.op = 12 then ({ t with list := putF (fun x => decide (x = e.name)) (fun x => sless e.name x) e.name t.list false }, 0) else
  if e.op = 13 then ({ t with list := delF (fun x => decide (x = e.name)) t.list }, if t.list.any (fun x => decide (x = e.name)) then 0 else 5) else
  if e.op = 14 then ({ t with ranks := putF (fun x => decide (x.name = e.name)) (fun x => aheadR ⟨e.name, e.num⟩ x) ⟨e.name, e.num⟩ t.ranks false }, 0) else
  if e.op = 15 then ({ t with ranks := delF (fun x => decide (x.name = e.name)) t.ranks }, if t.ranks.any (fun x => decide (x.name = e.name)) then 0 else 5) else (t, 0)

structure TGood (t : Thing) : Prop where
  ps : t.pairs.Pairwise fun a b => sless a.name b.name = true
  ls : t.kind = 4 → t.list.Pairwise fun a b => sless a b = true
  rs : t.ranks.Pairwise fun a b => aheadR a b = true
  once : (t.ranks.map Rank.name).Nodup
  only : t.kind = 3 → t.pairs = [] ∧ t.ranks = []
  few : countT t ≤ 65536

theorem TGood.lens {t : Thing} (g : TGood t) : Lens t := by
  have := g.few
  unfold countT at this
  exact ⟨by omega, by omega, by omega⟩

end Go.Proofs.YtgmkldaonkbjgaaGreatDoor
namespace Go.Proofs.YtgmkldaonkbjgaaGreatDoor
open Go Go.Sx Go.Proofs.YtgmkldaonkbjgaaGreatDoor.C

theorem _root_.Go.Sx.Chg.step {S U : List Nat} {a b c : Heap} (c1 : Chg U a b) (c2 : Chg S b c) (hs : ∀ k ∈ S, k < a.size → k ∈ U) : Chg U a c := c1.trans c2 (fun _ h => h) hs

end Go.Proofs.YtgmkldaonkbjgaaGreatDoor
namespace Go.Proofs.YtgmkldaonkbjgaaGreatDoor
open Go Go.Sx Go.Proofs.YtgmkldaonkbjgaaGreatDoor.C

structure Rule where
  name : Bool
  text : Bool
  number : Bool
  kind : Int
  makes : Bool
  f : Nat

def Rule.val (r : Rule) : Value := ruleV r.name r.text r.number r.kind r.makes r.f

def ruleR (op : Int) : Option Rule :=
  if op = 1 then some ⟨false, false, false, 0, false, 117⟩ else
  if op = 2 then some ⟨false, true, false, 0, true, 118⟩ else
  if op = 3 then some ⟨false, false, true, 0, false, 119⟩ else
  if op = 4 then some ⟨false, false, false, 0, false, 120⟩ else
  if op = 5 then some ⟨true, true, false, 2, true, 121⟩ else
  if op = 6 then some ⟨true, false, false, 2, false, 122⟩ else
  if op = 7 then some ⟨false, true, false, 3, true, 123⟩ else
  if op = 8 then some ⟨false, true, false, 3, true, 125⟩ else
  if op = 9 then some ⟨false, false, false, 3, false, 126⟩ else
  if op = 10 then some ⟨false, false, false, 3, false, 127⟩ else
  if op = 11 then some ⟨false, true, true, 3, false, 128⟩ else
  if op = 12 then some ⟨true, false, false, 4, true, 129⟩ else
  if op = 13 then some ⟨true, false, false, 4, false, 130⟩ else
  if op = 14 then some ⟨true, false, true, 5, true, 131⟩ else
  if op = 15 then some ⟨true, false, false, 5, false, 132⟩ else none

inductive Fate where
  | no (n : Int)
  | drop
  | put (t : Thing)

def endF (r : Thing × Int) (there full : Bool) : Fate :=
  if r.2 ≠ 0 then .no r.2 else if r.1.kind ≠ 1 ∧ countT r.1 = 0 then .drop else if 65536 < countT r.1 ∨ (there = false ∧ full = true) then .no 3 else .put r.1

def oneF (old : Option Thing) (e : Eff) (full : Bool) : Fate :=
  match ruleR e.op with
  | none => .no 2
  | some r =>
    if (r.name = false ∧ e.name ≠ noText) ∨ (r.text = false ∧ e.text ≠ noText) ∨ (r.number = false ∧ e.num ≠ 0) then .no 2 else
    if 1048576 < e.key.size ∨ 1048576 < e.name.size ∨ 1048576 < e.text.size then .no 3 else
    match old with
    | none => if r.makes = false then .no 5 else endF (doneT { zeroT with kind := r.kind } e) false full
    | some t => if r.kind ≠ 0 ∧ t.kind ≠ r.kind then .no 170 else endF (doneT t e) true full

abbrev Space := List (ByteArray × Thing)

def findS (S : Space) (key : ByteArray) : Option Thing := (S.find? fun p => decide (p.1 = key)).map (·.2)
def dropS (S : Space) (key : ByteArray) : Space := S.filter fun p => !decide (p.1 = key)
def putS (S : Space) (key : ByteArray) (t : Thing) : Space := S.filter (fun p => sless p.1 key) ++ (key, t) :: S.filter (fun p => sless key p.1)

def Fate.num : Fate → Int
  | .no n => n
  | _ => 0
def Fate.space (S : Space) (key : ByteArray) : Fate → Space
  | .no _ => S
  | .drop => dropS S key
  | .put t => putS S key t

def fateS (S : Space) (e : Eff) : Fate := oneF (findS S e.key) e (decide (65536 ≤ S.length))
def UpS (S : Space) : Prop := S.Pairwise fun a b => sless a.1 b.1 = true

theorem mem_putS {S : Space} {key : ByteArray} {t : Thing} {p : ByteArray × Thing} : p ∈ putS S key t ↔ p = (key, t) ∨ (p ∈ S ∧ p.1 ≠ key) := by
  unfold putS
  rw [List.mem_append, List.mem_cons, List.mem_filter, List.mem_filter]
  constructor
  · rintro (⟨h1, h2⟩ | h | ⟨h1, h2⟩)
    · exact .inr ⟨h1, sless_ne (by simpa using h2)⟩
    · exact .inl h
    · exact .inr ⟨h1, fun e => sless_ne (by simpa using h2) e.symm⟩
  · rintro (h | ⟨h1, h2⟩)
    · exact .inr (.inl h)
    · rcases sless_total h2 with h | h
      · exact .inl ⟨h1, by simpa using h⟩
      · exact .inr (.inr ⟨h1, by simpa using h⟩)

theorem up_putS {S : Space} {key : ByteArray} {t : Thing} (hu : UpS S) : UpS (putS S key t) := by
  unfold putS UpS
  rw [List.pairwise_append, List.pairwise_cons]
  refine ⟨hu.filter _, ⟨fun p hp => ?_, hu.filter _⟩, fun p hp q hq => ?_⟩
  · have := (List.mem_filter.1 hp).2
    simpa using this
  · have h1 : sless p.1 key = true := by simpa using (List.mem_filter.1 hp).2
    rcases List.mem_cons.1 hq with rfl | hq
    · exact h1
    · have h2 : sless key q.1 = true := by simpa using (List.mem_filter.1 hq).2
      exact sless_trans h1 h2

theorem mem_dropS {S : Space} {key : ByteArray} {p : ByteArray × Thing} : p ∈ dropS S key ↔ p ∈ S ∧ p.1 ≠ key := by
  unfold dropS
  rw [List.mem_filter]
  simp

theorem up_dropS {S : Space} {key : ByteArray} (hu : UpS S) : UpS (dropS S key) := hu.filter _

theorem up_inj {S : Space} (hu : UpS S) {p q : ByteArray × Thing} (hp : p ∈ S) (hq : q ∈ S) (h : p.1 = q.1) : p = q := by
  induction S with
  | nil => simp at hp
  | cons x S ih =>
    have hx := List.pairwise_cons.1 hu
    rcases List.mem_cons.1 hp with e1 | hp
    · rcases List.mem_cons.1 hq with e2 | hq
      · rw [e1, e2]
      · have := hx.1 q hq
        rw [← e1, h, sless_irrefl] at this; cases this
    · rcases List.mem_cons.1 hq with e2 | hq
      · have := hx.1 p hp
        rw [← e2, h, sless_irrefl] at this; cases this
      · exact ih hx.2 hp hq

theorem findS_some {S : Space} (hu : UpS S) {key : ByteArray} {t : Thing} (h : (key, t) ∈ S) : findS S key = some t := by
  unfold findS
  cases hf : S.find? fun p => decide (p.1 = key) with
  | none =>
    have := List.find?_eq_none.1 hf _ h
    simp at this
  | some p =>
    have h1 := List.find?_some hf
    have h2 := List.mem_of_find?_eq_some hf
    have : p = (key, t) := up_inj hu h2 h (by simpa using h1)
    rw [this]; rfl

theorem findS_none {S : Space} {key : ByteArray} (h : ∀ p ∈ S, p.1 ≠ key) : findS S key = none := by
  unfold findS
  rw [List.find?_eq_none.2 fun p hp => by simpa using h p hp]
  rfl

theorem findS_mem {S : Space} {key : ByteArray} {t : Thing} (h : findS S key = some t) : (key, t) ∈ S := by
  unfold findS at h
  cases hf : S.find? fun p => decide (p.1 = key) with
  | none => rw [hf] at h; cases h
  | some p =>
    rw [hf] at h
    have h1 : p.1 = key := by simpa using List.find?_some hf
    have h2 := List.mem_of_find?_eq_some hf
    have h3 : p.2 = t := by simpa using h
    rw [← h1, ← h3]; exact h2

theorem TGood.zero (k : Int) : TGood { zeroT with kind := k } :=
  ⟨List.Pairwise.nil, fun _ => List.Pairwise.nil, List.Pairwise.nil, List.nodup_nil, fun _ => ⟨rfl, rfl⟩, by show (0 : Nat) + 0 + 0 ≤ 65536; omega⟩

structure TIn (t : Thing) : Prop where
  good : TGood t
  some : t.kind = 3 → t.list ≠ []

def InS (S : Space) : Prop := ∀ p ∈ S, TIn p.2

end Go.Proofs.YtgmkldaonkbjgaaGreatDoor
namespace Go.Proofs.YtgmkldaonkbjgaaGreatDoor
open Go Go.Sx Go.Proofs.YtgmkldaonkbjgaaGreatDoor.C

theorem map_set {m : List KI} {j : Nat} {i : KI} {tb : Nat} {us : List Value} {t : Thing} (hj : m[j]? = some i) : (m.map KI.ent).modify j (fun e => { e with val := ptr tb }) = (m.set j ⟨i.key, tb, us, t, i.born⟩).map KI.ent := by
  induction m generalizing j with
  | nil => simp at hj
  | cons x m ih =>
    cases j with
    | zero =>
      simp at hj
      subst hj
      simp [KI.ent]
    | succ j =>
      have := ih (j := j) (by simpa using hj)
      simp only [List.map_cons, List.modify_succ_cons, List.set_cons_succ, this]

theorem map_erase {m : List KI} {j : Nat} : (m.map KI.ent).eraseIdx j = (m.eraseIdx j).map KI.ent := by
  induction m generalizing j with
  | nil => simp
  | cons x m ih =>
    cases j with
    | zero => simp
    | succ j => simp [ih]

theorem mem_set {m : List KI} {j : Nat} {i x y : KI} (hn : (m.map KI.key).Nodup) (hj : m[j]? = some i) : y ∈ m.set j x ↔ y = x ∨ (y ∈ m ∧ y.key ≠ i.key) := by
  induction m generalizing j with
  | nil => simp at hj
  | cons z m ih =>
    rw [List.map_cons, List.nodup_cons] at hn
    cases j with
    | zero =>
      simp at hj
      subst hj
      rw [List.set_cons_zero, List.mem_cons, List.mem_cons]
      constructor
      · rintro (h | h)
        · exact .inl h
        · exact .inr ⟨.inr h, fun e => hn.1 (by rw [← e]; exact List.mem_map_of_mem h)⟩
      · rintro (h | ⟨h | h, hk⟩)
        · exact .inl h
        · exact absurd (by rw [h]) hk
        · exact .inr h
    | succ j =>
      have hj' : m[j]? = some i := by simpa using hj
      have := ih hn.2 hj'
      rw [List.set_cons_succ, List.mem_cons, List.mem_cons, this]
      have hi := List.mem_of_getElem? hj'
      constructor
      · rintro (h | h | ⟨h, hk⟩)
        · exact .inr ⟨.inl h, fun e => hn.1 (by rw [← h, e]; exact List.mem_map_of_mem hi)⟩
        · exact .inl h
        · exact .inr ⟨.inr h, hk⟩
      · rintro (h | ⟨h | h, hk⟩)
        · exact .inr (.inl h)
        · exact .inl h
        · exact .inr (.inr ⟨h, hk⟩)

theorem KR.turn {h h' : Heap} {kb sb mb c tb j : Nat} {m : List KI} {i : KI} {us : List Value} {t : Thing} (x : KR h kb sb mb c m) (hj : m[j]? = some i)
    (p : PutO h h' mb (.map ⟨(m.map KI.ent).modify j (fun e => { e with val := ptr tb })⟩ c)) (B : Blk h tb us) (tx : TH h us t) (n : Lens t) :
    KR h' kb sb mb c (m.set j ⟨i.key, tb, us, t, i.born⟩) := by
  have ch := ch_putO x.map p
  have hi := List.mem_of_getElem? hj
  have km : ∀ {β : Type} (f : KI → β), f ⟨i.key, tb, us, t, i.born⟩ = f i → (m.set j ⟨i.key, tb, us, t, i.born⟩).map f = m.map f := fun f hf => by
    rw [List.map_set, hf]
    have : (m.map f)[j]? = some (f i) := by rw [List.getElem?_map, hj]; rfl
    rw [List.getElem?_eq_some_iff] at this
    obtain ⟨hlt, he⟩ := this
    rw [← he]; exact List.set_getElem_self hlt
  refine ⟨x.ks.ch ch, ?_, fun y hy => ?_, ?_, fun y hy => ?_, ?_, fun y hy => ?_, by rw [List.length_set]; exact x.len⟩
  · show h'[mb]? = _
    rw [p.blk, map_set (us := us) (t := t) hj]
  · rcases (mem_set x.nodup hj).1 hy with rfl | ⟨hy, _⟩
    · exact ⟨ch.blk _ _ B, tx.ch ch, n⟩
    · obtain ⟨h1, h2, h3⟩ := x.here y hy
      exact ⟨ch.blk _ _ h1, h2.ch ch, h3⟩
  · rw [km KI.key rfl]; exact x.nodup
  · rcases (mem_set x.nodup hj).1 hy with rfl | ⟨hy, _⟩
    · exact x.born i hi
    · exact x.born y hy
  · rw [km KI.born rfl]; exact x.borns
  · rcases (mem_set x.nodup hj).1 hy with rfl | ⟨hy, _⟩
    · exact x.keys i hi
    · exact x.keys y hy

theorem KR.erase {h h' : Heap} {kb sb mb c j : Nat} {m : List KI} (x : KR h kb sb mb c m) (p : PutO h h' mb (.map ⟨(m.map KI.ent).eraseIdx j⟩ c)) : KR h' kb sb mb c (m.eraseIdx j) := by
  have ch := ch_putO x.map p
  have sub : (m.eraseIdx j).Sublist m := List.eraseIdx_sublist m j
  refine ⟨x.ks.ch ch, ?_, fun y hy => ?_, x.nodup.sublist (sub.map _), fun y hy => x.born y (sub.subset hy), x.borns.sublist (sub.map _), fun y hy => x.keys y (sub.subset hy), Nat.le_trans sub.length_le x.len⟩
  · show h'[mb]? = _
    rw [p.blk, map_erase]
  · obtain ⟨h1, h2, h3⟩ := x.here y (sub.subset hy)
    exact ⟨ch.blk _ _ h1, h2.ch ch, h3⟩

theorem mem_pr {m : List KI} {p : ByteArray × Thing} : p ∈ m.map KI.pr ↔ ∃ i ∈ m, i.key = p.1 ∧ i.thing = p.2 := by
  rw [List.mem_map]
  constructor
  · rintro ⟨i, hi, rfl⟩; exact ⟨i, hi, rfl, rfl⟩
  · rintro ⟨i, hi, h1, h2⟩; exact ⟨i, hi, by cases p; simp_all [KI.pr]⟩

end Go.Proofs.YtgmkldaonkbjgaaGreatDoor
namespace Go.Proofs.YtgmkldaonkbjgaaGreatDoor
open Go Go.Sx Go.Proofs.YtgmkldaonkbjgaaGreatDoor.C

theorem LookK_calls {h : Heap} {kb sb mb c : Nat} {m : List KI} (key : ByteArray) (x : KR h kb sb mb c m) :
    CallsH Tryz.prog 78 [ptr kb, .string key] h (Ret fun r h' => ((∃ i ∈ m, i.key = key ∧ ∃ pv lv rv, r = .tuple #[.agg ⟨cellsT i.thing pv lv rv⟩, .bool true] ∧ TO h' pv lv rv i.thing ∧ ∀ b ∈ bl3 pv lv rv, h.size ≤ b) ∨
      ((∀ i ∈ m, i.key ≠ key) ∧ r = .tuple #[.agg ⟨zeroV⟩, .bool false])) ∧ Chg [] h h') := by
  rcases mfind_ents key m 0 with ⟨hmf, hno⟩ | ⟨j, i, hmf, hj, hik⟩
  · refine (Look_none x.ks x.map (ents_fit m) hmf).mono fun e h' he => ?_
    cases e with
    | returned v => exact ⟨.inr ⟨hno, he.1⟩, he.2⟩
    | panicked ch => exact he.elim
    | outgrown => exact he.elim
  have hi : i ∈ m := List.mem_of_getElem? hj
  obtain ⟨Bi, ti, ni⟩ := x.here i hi
  refine f78_calls (by simp) ?_
  intro b4 h1 g1
  have hc := g1.chg
  have x1 := x.ext hc
  refine call_ret (none_calls x1.ks) ?_
  rintro _ h9 ⟨rfl, e9⟩
  have e9 := e9.symm
  subst e9
  refine Exists.intro _ (And.intro (cell_blk x1.ks.k rfl) (Exists.intro _ (And.intro (cell_blk x1.ks.s rfl) ?_)))
  refine And.intro rfl (Exists.intro (m.map KI.ent) (Exists.intro c (And.intro x1.map (And.intro (ents_fit m) ?_))))
  rw [hmf]
  refine Exists.intro _ (And.intro (cell_blk x1.ks.k rfl) (Exists.intro _ (And.intro (cell_blk x1.ks.s rfl) ?_)))
  refine And.intro rfl (Exists.intro (m.map KI.ent) (Exists.intro c (And.intro x1.map (And.intro (ents_fit m) ?_))))
  rw [hmf]
  have B1 := Bi.chg hc (by simp)
  have t1 := ti.ext hc
  refine Exists.intro i.vs (And.intro t1.len (And.intro (cells_blk B1) ?_))
  refine call_ret (copied_own t1 ni) ?_
  rintro _ h2 ⟨⟨pv, lv, rv, rfl, o2, fr⟩, hc2⟩
  have Bz : Blk h2 b4 zeroV := (show Blk h1 b4 zeroV from g1.blk).chg hc2 (by simp)
  refine Exists.intro _ (And.intro Bz (And.intro (by decide) (And.intro rfl (And.intro (thing_one o2.th) ?_))))
  intro h3 p3
  have i4 := g1.id
  have z4 := g1.size
  have B3 : Blk h3 b4 (cellsT i.thing pv lv rv) := p3.blk
  refine Exists.intro _ (And.intro rfl (And.intro (cells_blk B3) ?_))
  refine And.intro (.inl ⟨i, hi, hik, pv, lv, rv, rfl, o2.chg p3.chg (fun b hb => by have := fr b hb; simp; omega), fun b hb => by have := fr b hb; omega⟩) ((hc.nil hc2).fresh p3.chg (by simp; omega))

theorem TO.nil {h : Heap} {t : Thing} (h1 : t.pairs = []) (h2 : t.list = []) (h3 : t.ranks = []) : TO h (.slice none 0 0) (.slice none 0 0) (.slice none 0 0) t :=
  ⟨by rw [h1]; exact OL.nil, by rw [h2]; exact OL.nil, by rw [h3]; exact OL.nil, by simp [vblk, ablk], by simp [vblk, ablk], by simp [vblk, ablk]⟩

end Go.Proofs.YtgmkldaonkbjgaaGreatDoor
namespace Go.Proofs.YtgmkldaonkbjgaaGreatDoor
open Go Go.Sx Go.Proofs.YtgmkldaonkbjgaaGreatDoor.C

theorem ki_nodup {m : List KI} (hn : (m.map KI.key).Nodup) : (m.map KI.pr).Nodup := by
  have : m.map KI.key = (m.map KI.pr).map Prod.fst := by rw [List.map_map]; rfl
  rw [this] at hn
  exact List.Pairwise.imp (fun h e => h (by rw [e])) (List.pairwise_map.1 hn)

theorem up_nodup {S : Space} (hu : UpS S) : S.Nodup := hu.imp fun h e => by rw [e, sless_irrefl] at h; cases h

theorem sorted_len {m : List KI} {S : Space} (hn : (m.map KI.key).Nodup) (hs : Sorted m S) : S.length = m.length := by
  have := ((List.perm_ext_iff_of_nodup (up_nodup hs.up) (ki_nodup hn)).2 hs.mem).length_eq
  simpa using this

end Go.Proofs.YtgmkldaonkbjgaaGreatDoor
set_option maxRecDepth 100000
namespace Go.Proofs.YtgmkldaonkbjgaaGreatDoor.C
open Go Go.Sx Go.Sx.S


end Go.Proofs.YtgmkldaonkbjgaaGreatDoor.C
namespace Go.Proofs.YtgmkldaonkbjgaaGreatDoor
open Go Go.Sx Go.Proofs.YtgmkldaonkbjgaaGreatDoor.C

section
variable {α : Type}

end

end Go.Proofs.YtgmkldaonkbjgaaGreatDoor
namespace Go.Proofs.YtgmkldaonkbjgaaGreatDoor
open Go Go.Sx Go.Proofs.YtgmkldaonkbjgaaGreatDoor.C

end Go.Proofs.YtgmkldaonkbjgaaGreatDoor
namespace Go.Proofs.YtgmkldaonkbjgaaGreatDoor
open Go Go.Sx Go.Proofs.YtgmkldaonkbjgaaGreatDoor.C

structure Named (t : Thing) : Prop where
  ps : ∀ x ∈ t.pairs, x.name.size < 4611686018427387904
  ls : ∀ x ∈ t.list, x.size < 4611686018427387904
  rs : ∀ x ∈ t.ranks, x.name.size < 4611686018427387904

theorem TH.open {h : Heap} {t : Thing} {k tx hu un pv lv rv : Value} (x : TH h [k, tx, pv, lv, rv, hu, un] t) : SL encP h pv t.pairs ∧ SL encS h lv t.list ∧ SL encR h rv t.ranks := by
  obtain ⟨p, l, r, he, h1, h2, h3⟩ := x
  simp only [List.cons.injEq] at he
  obtain ⟨_, _, rfl, rfl, rfl, _⟩ := he
  exact ⟨h1, h2, h3⟩

end Go.Proofs.YtgmkldaonkbjgaaGreatDoor
namespace Go.Proofs.YtgmkldaonkbjgaaGreatDoor
open Go Go.Sx Go.Proofs.YtgmkldaonkbjgaaGreatDoor.C

theorem TH.kind {h : Heap} {vs : List Value} {t : Thing} (x : TH h vs t) : vs[0]? = some (.int .i64 t.kind) := by
  obtain ⟨pv, lv, rv, rfl, _⟩ := x
  rfl

theorem pr_up {l : List RX} (hu : UpX l) : UpS (l.map RX.pr) := List.Pairwise.map RX.pr (fun _ _ h => h) hu

theorem find_yes {l : List RX} (hu : UpX l) {key : ByteArray} {i : Nat} (hi : i < l.length) (hk : l[i].key = key) : findS (l.map RX.pr) key = some l[i].thing := by
  refine findS_some (pr_up hu) (List.mem_map.2 ⟨l[i], List.getElem_mem hi, ?_⟩)
  unfold RX.pr; rw [hk]

theorem find_no {l : List RX} (hu : UpX l) {key : ByteArray} (hb : (findX key l).2 = false) : findS (l.map RX.pr) key = none := by
  refine findS_none fun p hp => ?_
  obtain ⟨x, hx, rfl⟩ := List.mem_map.1 hp
  intro hk
  rw [findX_has hu ⟨x, hx, hk⟩] at hb
  cases hb

structure RG (l : List RX) : Prop where
  up : UpX l
  len : l.length ≤ 65536
  fit : KeysFit l
  tin : ∀ x ∈ l, TIn x.thing
  nm : ∀ x ∈ l, Named x.thing

theorem RG.ins {l : List RX} (g : RG l) : InS (l.map RX.pr) := by
  intro p hp
  obtain ⟨x, hx, rfl⟩ := List.mem_map.1 hp
  exact g.tin x hx

theorem RG.drop {l : List RX} (g : RG l) (key : ByteArray) : RG (dropX l key) := by
  refine ⟨up_dropX g.up, ?_, fun x hx => g.fit x ((mem_dropX g.up).1 hx).1, fun x hx => g.tin x ((mem_dropX g.up).1 hx).1, fun x hx => g.nm x ((mem_dropX g.up).1 hx).1⟩
  have := g.len
  unfold dropX
  split
  · simp only [List.length_append, List.length_take, List.length_drop]; omega
  · exact this

theorem RG.put {l : List RX} (g : RG l) {x : RX} (hl : (findX x.key l).2 = true ∨ l.length < 65536) (hk : x.key.size < 4611686018427387904) (ht : TIn x.thing) (hn : Named x.thing) : RG (putX l x) := by
  refine ⟨up_putX g.up, ?_, fun y hy => ?_, fun y hy => ?_, fun y hy => ?_⟩
  · have := g.len
    cases hb : (findX x.key l).2 with
    | false =>
      rw [putX_new hb]
      rcases hl with h | h
      · rw [hb] at h; cases h
      · omega
    | true =>
      obtain ⟨hlt, _⟩ := findX_hit x.key l hb
      unfold putX
      simp only [List.length_append, List.length_take, List.length_drop, List.length_cons, List.length_nil, hb, if_true]
      omega
  · rcases (mem_putX g.up).1 hy with rfl | ⟨hy, _⟩
    · exact hk
    · exact g.fit y hy
  · rcases (mem_putX g.up).1 hy with rfl | ⟨hy, _⟩
    · exact ht
    · exact g.tin y hy
  · rcases (mem_putX g.up).1 hy with rfl | ⟨hy, _⟩
    · exact hn
    · exact g.nm y hy

end Go.Proofs.YtgmkldaonkbjgaaGreatDoor
namespace Go.Proofs.YtgmkldaonkbjgaaGreatDoor
open Go Go.Sx Go.Proofs.YtgmkldaonkbjgaaGreatDoor.C

def getS (S : Space) (key : ByteArray) (now : Int) : Option Thing := match findS S key with
  | some t => if goneT t now = true then none else some t
  | none => none

theorem look_find {l : List RX} (hu : UpX l) (key : ByteArray) : lookX l key = findS (l.map RX.pr) key := by
  unfold lookX
  cases hb : (findX key l).2 with
  | true =>
    obtain ⟨hlt, hk⟩ := findX_hit key l hb
    rw [if_pos rfl, find_yes hu hlt hk, List.getElem?_eq_getElem hlt]
    rfl
  | false => rw [if_neg (by simp), find_no hu hb]

theorem get_get {l : List RX} (hu : UpX l) (key : ByteArray) (now : Int) : getX l key now = getS (l.map RX.pr) key now := by
  unfold getX getS
  rw [look_find hu]
  rfl

theorem find_mem {m : List KI} {S : Space} (hs : Sorted m S) {i : KI} (hi : i ∈ m) : findS S i.key = some i.thing :=
  findS_some hs.up ((hs.mem _).2 (mem_pr.2 ⟨i, hi, rfl, rfl⟩))

theorem find_out {m : List KI} {S : Space} (hs : Sorted m S) {key : ByteArray} (hno : ∀ i ∈ m, i.key ≠ key) : findS S key = none := by
  cases hf : findS S key with
  | none => rfl
  | some t =>
    obtain ⟨i, hi, h1, h2⟩ := mem_pr.1 ((hs.mem _).1 (findS_mem hf))
    exact absurd h1 (hno i hi)

theorem KGet_calls {h : Heap} {kb sb mb c : Nat} {m : List KI} {S : Space} (key : ByteArray) (now : Int) (x : KR h kb sb mb c m) (hs : Sorted m S) :
    CallsH Tryz.prog 106 [ptr kb, .string key, .int .i64 now] h (Ret fun r h' => (∃ us, r = .tuple #[.agg ⟨us⟩, .bool (getS S key now).isSome] ∧ TH h' us ((getS S key now).getD zeroT)) ∧ Chg [] h h') := by
  obtain ⟨go, hgo⟩ : ∃ go, go = getS S key now := ⟨_, rfl⟩
  rw [← hgo]
  refine f106_calls (by simp) ?_
  intro b6 h1 g1
  have c1 := g1.chg
  have i6 := g1.id
  have z1 := g1.size
  have B6 : Blk h1 b6 zeroV := g1.blk
  refine call_ret (LookK_calls key (x.ext c1)) ?_
  rintro _ h2 ⟨hlook, c2⟩
  have z2 := c2.size
  rcases hlook with ⟨i, hi, hik, pv, lv, rv, rfl, o2, fr⟩ | ⟨hno, rfl⟩
  · have hfs : findS S key = some i.thing := by rw [← hik]; exact find_mem hs hi
    intro b8 h3 g3
    refine Exists.intro zeroV (And.intro g3.blk (And.intro (by decide) (And.intro rfl (And.intro (thing_one o2.th) ?_))))
    intro h4 p4
    have g4 := g3.put p4
    have B8 : Blk h4 b8 (cellsT i.thing pv lv rv) := p4.blk
    have o4 := o2.ext g4.chg
    have c14 : Chg [] h1 h4 := c2.nil g4.chg
    refine Exists.intro _ (And.intro rfl (And.intro (cells_blk B8) ?_))
    refine call_ret (gone_calls o4.th now) ?_
    rintro _ h5 ⟨rfl, c5⟩
    have c15 := c14.nil c5
    have o5 := o4.ext c5
    have B65 := B6.chg c15 (by simp)
    have B85 := B8.chg c5 (by simp)
    cases hg : (i.thing.hasU && decide (i.thing.unt ≤ now)) with
    | true =>
      have e : go = none := by rw [hgo]; unfold getS; rw [hfs]; simp only; rw [if_pos (show goneT i.thing now = true from hg)]
      subst e
      refine Exists.intro zeroV (And.intro B65 (And.intro (by decide) (And.intro rfl (And.intro (thing_one (zero_TH (h := h5))) ?_))))
      intro h6 p6
      have B66 : Blk h6 b6 zeroV := p6.blk
      refine Exists.intro zeroV (And.intro rfl (And.intro (cells_blk B66) ?_))
      exact And.intro (Exists.intro zeroV (And.intro rfl zero_TH)) ((c1.nil c15).fresh p6.chg (by simp; omega))
    | false =>
      have e : go = some i.thing := by rw [hgo]; unfold getS; rw [hfs]; simp only; rw [if_neg (by unfold goneT; rw [hg]; simp)]
      subst e
      refine Exists.intro _ (And.intro rfl (And.intro (cells_blk B85) ?_))
      refine Exists.intro zeroV (And.intro B65 (And.intro (by decide) (And.intro rfl (And.intro (thing_one o5.th) ?_))))
      intro h6 p6
      have B66 : Blk h6 b6 (cellsT i.thing pv lv rv) := p6.blk
      have o6 := o5.chg p6.chg (fun b hb => by have := fr b hb; simp; omega)
      refine Exists.intro _ (And.intro rfl (And.intro (cells_blk B66) ?_))
      exact And.intro (Exists.intro _ (And.intro rfl o6.th)) ((c1.nil c15).fresh p6.chg (by simp; omega))
  · have e : go = none := by rw [hgo]; unfold getS; rw [find_out hs hno]
    subst e
    intro b8 h3 g3
    refine Exists.intro zeroV (And.intro g3.blk (And.intro (by decide) (And.intro rfl (And.intro (thing_one (zero_TH (h := h3))) ?_))))
    intro h4 p4
    have g4 := g3.put p4
    have c14 : Chg [] h1 h4 := c2.nil g4.chg
    have B64 := B6.chg c14 (by simp)
    refine Exists.intro zeroV (And.intro B64 (And.intro (by decide) (And.intro rfl (And.intro (thing_one (zero_TH (h := h4))) ?_))))
    intro h6 p6
    have B66 : Blk h6 b6 zeroV := p6.blk
    refine Exists.intro zeroV (And.intro rfl (And.intro (cells_blk B66) ?_))
    exact And.intro (Exists.intro zeroV (And.intro rfl zero_TH)) ((c1.nil c14).fresh p6.chg (by simp; omega))

def liveS (now : Int) (S : Space) : List ByteArray := (S.filter fun p => !goneT p.2 now).map Prod.fst

theorem liveS_snoc {now : Int} {S : Space} {p : ByteArray × Thing} : liveS now (S ++ [p]) = liveS now S ++ (if goneT p.2 now = true then [] else [p.1]) := by
  unfold liveS
  rw [List.filter_append, List.map_append]
  cases hg : goneT p.2 now <;> simp [hg]

theorem liveS_len {now : Int} {S : Space} : (liveS now S).length ≤ S.length := by
  unfold liveS
  rw [List.length_map]
  exact List.length_filter_le _ _

theorem RNames_calls {h : Heap} {v : Value} {l : List RX} (now : Int) (hv : SL encX h v l) (g : GX h l) (rg : RG l) :
    CallsH Tryz.prog 145 [v, .int .i64 now] h (Ret fun r h' => OL encS 1 h' r (liveS now (l.map RX.pr)) ∧ (∀ b ∈ vblk r, h.size ≤ b) ∧ Chg [] h h') := by
  obtain ⟨a, c, rfl, hlc⟩ := hv.form
  have hl := rg.len
  obtain ⟨S, hS⟩ : ∃ S, S = l.map RX.pr := ⟨_, rfl⟩
  rw [← hS]
  have hSl : S.length = l.length := by rw [hS]; simp
  refine f145_calls (by simp) ?_
  refine loop_intro (fun i : Nat × Option Addr × Nat × List ByteArray => [(0, .slice a l.length c), (1, .int .i64 now), (5, .slice i.2.1 i.2.2.2.length i.2.2.1), (6, .int .i64 i.1)])
    (fun i h' => i.1 ≤ l.length ∧ Chg [] h h' ∧ OL encS 1 h' (.slice i.2.1 i.2.2.2.length i.2.2.1) i.2.2.2 ∧ (∀ b ∈ ablk i.2.1, h.size ≤ b) ∧ i.2.2.2 = liveS now (S.take i.1)) (fun i => l.length - i.1) (0, none, 0, [])
    ⟨rfl, rfl, rfl, rfl, trivial⟩ ⟨Nat.zero_le _, Chg.refl h, OL.nil, by simp [ablk], by simp [liveS]⟩ ?_
  rintro ⟨k, a2, c2, acc⟩ h1 ⟨hk, c1, ho, hfr, hacc⟩
  simp only at hk ho hfr hacc
  have hal : acc.length ≤ k := by
    have := liveS_len (now := now) (S := S.take k)
    rw [← hacc, List.length_take] at this
    omega
  have hv1 := hv.ext c1
  refine And.intro rfl (And.intro (fun ht => ?_) (fun ht => ?_))
  · have hlt : k < l.length := by omega
    obtain ⟨b, o, rfl⟩ := hv1.addr (by omega)
    have hcs := hv1.cells encX_len (i := k) (x := l[k]) (by simp [hlt])
    have hmem : l[k] ∈ l := List.getElem_mem hlt
    refine And.intro (by omega) (And.intro (by omega) (Exists.intro _ (And.intro (hcs 0 _ rfl) ?_)))
    have hget : getX l l[k].key now = if goneT l[k].thing now = true then none else some l[k].thing := by
      rw [get_get rg.up]; unfold getS; rw [find_yes rg.up hlt rfl]
    have hsome : (getX l l[k].key now).isSome = !goneT l[k].thing now := by rw [hget]; cases goneT l[k].thing now <;> rfl
    refine call_ret (RGet_calls l[k].key now hv1 (g.ext c1) (by omega) (rg.fit _ hmem) rg.fit) ?_
    rintro r2 h2 ⟨⟨us, hr2, tu⟩, d2⟩
    rw [hsome] at hr2
    subst hr2
    intro b7 h3 g3
    refine Exists.intro _ (And.intro g3.blk (And.intro (by decide) (And.intro tu.len (And.intro (thing_one tu) ?_))))
    intro h4 p4
    have g4 := g3.put p4
    have c14 : Chg [] h1 h4 := d2.nil g4.chg
    have c04 := c1.nil c14
    have htk : S.take (k + 1) = S.take k ++ [(l[k].key, l[k].thing)] := by
      rw [take_snoc S k (by omega)]
      congr 2
      subst hS
      exact getPr _ hlt
    cases hg : goneT l[k].thing now with
    | true =>
      refine And.intro rfl (fun z hz => ?_)
      have hz := add_in hz (by omega) (by omega)
      subst hz
      refine And.intro rfl (Exists.intro (k + 1, a2, c2, acc) (And.intro ?_ (And.intro ?_ ?_)))
      · exact ⟨rfl, rfl, rfl, rfl, trivial⟩
      · exact ⟨by simp only; omega, c04, ho.ext c14, hfr, by simp only; rw [htk, liveS_snoc, if_pos hg, List.append_nil]; exact hacc⟩
      · simp only; omega
    | false =>
      have hcs4 := (hv1.ext c14).cells encX_len (i := k) (x := l[k]) (by simp [hlt])
      refine And.intro (by omega) (And.intro (by omega) (Exists.intro _ (And.intro (hcs4 0 _ rfl) ?_)))
      intro b5 h5 g5
      have one : SL encS h5 (.slice (some ⟨b5, 0, none⟩) 1 1) [l[k].key] := SL.one encS_len g5.blk
      have c05 := c04.nil g5.chg
      refine app_own encS_len encS_one rfl ((ho.ext c14).ext g5.chg) one (by simp; omega) ?_
      intro v6 h6 ho6 hc6 hb6
      obtain ⟨a6, c6, rfl, _⟩ := ho6.sl.form
      have hfr6 : ∀ b ∈ ablk a6, h.size ≤ b := fun b hb => by
        rcases hb6 b hb with h' | h'
        · exact hfr b h'
        · have := c05.size; omega
      refine And.intro rfl (fun z hz => ?_)
      have hz := add_in hz (by omega) (by omega)
      subst hz
      refine And.intro rfl (Exists.intro (k + 1, a6, c6, acc ++ [l[k].key]) (And.intro ?_ (And.intro ?_ ?_)))
      · exact ⟨rfl, rfl, rfl, rfl, trivial⟩
      · exact ⟨by simp only; omega, c05.fresh hc6 hfr, ho6, hfr6, by simp only; rw [htk, liveS_snoc, if_neg (by rw [hg]; simp), ← hacc]⟩
      · simp only; omega
  · have hkl : k = l.length := by omega
    have e : S.take k = S := List.take_of_length_le (by omega)
    rw [e] at hacc
    rw [← hacc]
    exact And.intro ho (And.intro hfr c1)

end Go.Proofs.YtgmkldaonkbjgaaGreatDoor
namespace Go.Proofs.YtgmkldaonkbjgaaGreatDoor
open Go Go.Sx Go.Proofs.YtgmkldaonkbjgaaGreatDoor.C

theorem turn_ch {h h' : Heap} {l : Nat} {r : Loop} {st : LoopState} {p : Option Go.Code} {st' : LoopState} {p' : Option Go.Code} (L : LoopB h l r st p) (t : Turn h h' l r st' p') : CH h h' := by
  refine ⟨fun b l' hb => ?_, fun b o v' hc => ?_⟩
  · have : b ≠ l := by
      rintro rfl
      obtain ⟨e, he⟩ := hb
      have := L.at_
      rw [he] at this; cases this
    obtain ⟨e, he⟩ := hb
    exact ⟨e, by rw [t.old b this]; exact he⟩
  · have : b ≠ l := by
      rintro rfl
      have := L.at_
      unfold Sx.cell at hc
      rw [this] at hc; cases hc
    unfold Sx.cell at hc ⊢
    rw [t.old b this]; exact hc

theorem KNames_calls {h : Heap} {kb sb mb c : Nat} {m : List KI} {S : Space} (now : Int) (kr : KR h kb sb mb c m) (hW : Sorted m S) :
    CallsH Tryz.prog 115 [ptr kb, .int .i64 now] h (Ret fun r h' => SL encS h' r (liveS now S) ∧ Chg [] h h') := by
  have hml := kr.len
  have hSl := sorted_len kr.nodup hW
  refine f115_calls (by simp) ?_
  intro b3 h1 g1
  intro b5 h2 g2
  refine call_ret (All_calls (h := h2)) ?_
  rintro _ h3 ⟨b1, rfl, g3⟩
  have c1 := g1.chg
  have c12 : Chg [] h1 h3 := g2.chg.nil g3.chg
  have c3 : Chg [] h h3 := c1.nil c12
  have i3 := g1.id; have i5 := g2.id; have i1 := g3.id
  have z1 := g1.size; have z2 := g2.size; have z3 := g3.size
  have B33 : Blk h3 b3 [.int .i64 now] := (show Blk h1 b3 [.int .i64 now] from g1.blk).chg c12 (by simp)
  have B53 : Blk h3 b5 [.slice none 0 0] := (show Blk h2 b5 [.slice none 0 0] from g2.blk).chg g3.chg (by simp)
  intro l D r h7 hD hl7 hsz hold hmark hloop hy
  have hc7 : Chg [] h3 h7 := ⟨by omega, fun k hk _ => hold k hk⟩
  have hc07 := c3.nil hc7
  have B17 : Blk h7 b1 [ptr kb] := (show Blk h3 b1 [ptr kb] from g3.blk).chg hc7 (by simp)
  refine (iter_calls hW (fun p k h' => Round h l D b1 kb r p h' ∧ Blk h' b3 [.int .i64 now] ∧ ∃ a cc out, Blk h' b5 [.slice a out.length cc] ∧ OL encS 1 h' (.slice a out.length cc) out ∧ (∀ q ∈ ablk a, p < q) ∧ out = liveS now (S.take k)) (fun _ => False) B17 (kr.ext hc07)
    (fun p h' hp1 hp2 hc => ?_) (fun p k h' j => ⟨j.1.b1, kr.ext j.1.chg⟩) (fun p k h' h'' j hc => ?_) (fun p k h' us hk j tu => ?_)).mono ?_
  · exact ⟨⟨loopB_chg hloop hc (by simp), get_chg hmark hc (by simp), B17.chg hc (by simp), hc07.nil hc, by omega, hp2⟩, (B33.chg hc7 (by simp)).chg hc (by simp), none, 0, [], (B53.chg hc7 (by simp)).chg hc (by simp), OL.nil, by simp [ablk], by simp [liveS]⟩
  · obtain ⟨j, j3, a, cc, out, j5, jo, jq, je⟩ := j
    exact ⟨j.ext hc, j3.chg hc (by simp), a, cc, out, j5.chg hc (by simp), jo.ext hc, jq, je⟩
  · obtain ⟨j, j3, a, cc, out, j5, jo, jq, je⟩ := j
    have hps := j.lt
    have hpn := j.pn
    have hll : l < h'.size := get_lt j.loop.at_
    have hbl := hc07.size
    refine hy h' _ _ j.loop rfl ?_
    intro b7 h8 g8
    refine Exists.intro _ (And.intro g8.blk (And.intro (by decide) (And.intro tu.len (And.intro (thing_one tu) ?_))))
    intro h9 p9
    have g9 := g8.put p9
    have c9 := g9.chg
    have B7 : Blk h9 b7 us := by
      have h8 : Blk h9 b7 (splice zeroV 0 us) := p9.blk
      rw [seven rfl tu.len] at h8
      exact h8
    have L9 := loopB_chg j.loop c9 (by simp)
    refine And.intro L9 (fun h10 t10 => ?_)
    have i7 := g9.id
    have z9 := g9.size
    have c10 : Chg [l] h' h10 := (c9.mono (by simp)).trans t10.chg (fun _ hk => hk) (fun _ hk _ => hk)
    have C3 := j3.chg c10 (by simp; omega)
    have C5 := j5.chg c10 (by simp; omega)
    have C7 : Blk h10 b7 us := B7.chg t10.chg (by simp; omega)
    have tu10 : TH h10 us S[k].2 := (tu.ext c9).ch (turn_ch L9 t10)
    have jo10 := jo.chg c10 (fun b hb => by have := jq b hb; simp; omega)
    have jlt := jo.lt
    refine Exists.intro us (And.intro tu10.len (And.intro (cells_blk C7) ?_))
    refine Exists.intro _ (And.intro (cell_blk C3 rfl) ?_)
    refine call_ret (gone_calls tu10 now) ?_
    rintro _ h11 ⟨rfl, c11⟩
    have z10 := c10.size
    have z11 := c11.size
    have D3 := C3.chg c11 (by simp)
    have D5 := C5.chg c11 (by simp)
    have L11 : LoopB h11 l r .busy none := loopB_chg t10.rec_ c11 (by simp)
    have htk : S.take (k + 1) = S.take k ++ [S[k]] := take_snoc S k hk
    have hal : out.length ≤ k := by
      have := liveS_len (now := now) (S := S.take k)
      rw [← je, List.length_take] at this
      omega
    cases hg : (S[k].2.hasU && decide (S[k].2.unt ≤ now)) with
    | true =>
      refine And.intro L11 (fun h13 t13 => ?_)
      have cU : Chg [l] h' h13 := ((c10.step c11 (by simp)).step t13.chg (fun _ h _ => h))
      have z13 := cU.size
      refine .inl ⟨rfl, ⟨⟨t13.rec_, get_chg j.mark cU (by simp; omega), j.b1.chg cU (by simp; omega), j.chg.fresh cU (by simp; omega), hps, by omega⟩, j3.chg cU (by simp; omega), a, cc, out, j5.chg cU (by simp; omega), jo.chg cU (fun b hb => by have := jq b hb; simp; omega), jq, ?_⟩, cU.old p hpn (by simp; omega)⟩
      rw [htk, liveS_snoc, if_pos (show goneT S[k].2 now = true from hg), List.append_nil]; exact je
    | false =>
      refine Exists.intro _ (And.intro (cell_blk D5 rfl) ?_)
      intro b18 h12 g12
      have one : SL encS h12 (.slice (some ⟨b18, 0, none⟩) 1 1) [S[k].1] := SL.one encS_len g12.blk
      have z12 := g12.size
      have jo12 := (jo10.ext c11).ext g12.chg
      refine app_own encS_len encS_one rfl jo12 one (by simp; omega) ?_
      intro v6 h13 ho13 hc13 hb13
      obtain ⟨a6, c6, rfl, _⟩ := ho13.sl.form
      have z13 := hc13.size
      have hq6 : ∀ q ∈ ablk a6, p < q ∧ q ≠ b5 ∧ q ≠ b3 := fun q hq => by
        rcases hb13 q hq with h' | h'
        · have := jq q h'; omega
        · omega
      have c1213 : Chg (l :: ablk a) h' h13 := (((c10.mono (by simp)).step c11 (by simp)).step g12.chg (by simp)).step hc13 (fun k hk _ => List.mem_cons_of_mem _ hk)
      have E5 : Blk h13 b5 [.slice a out.length cc] := j5.chg c1213 (by
        intro hx
        rcases List.mem_cons.1 hx with h' | h'
        · omega
        · have := jq _ h'; omega)
      refine Exists.intro _ (And.intro E5 (And.intro (by simp) (And.intro rfl (And.intro (ones1 rfl) ?_))))
      intro h14 p14
      have z14 := p14.chg.size
      have c14 : Chg (l :: b5 :: ablk a) h' h14 := (c1213.mono (fun x hx => by rcases List.mem_cons.1 hx with h' | h' <;> simp [h'])).step p14.chg (fun k hk _ => by simp at hk; simp [hk])
      have nin : ∀ x, x < p → x ≠ l → x ≠ b5 → x ∉ l :: b5 :: ablk a := fun x hx h1 h2 hm => by
        rcases List.mem_cons.1 hm with h' | h'
        · exact h1 h'
        · rcases List.mem_cons.1 h' with h' | h'
          · exact h2 h'
          · have := jq _ h'; omega
      have L14 : LoopB h14 l r .busy none := by
        have c1114 : Chg (b5 :: ablk a) h11 h14 := ((g12.chg.mono (by simp)).step hc13 (fun k hk _ => List.mem_cons_of_mem _ hk)).step p14.chg (fun k hk _ => by simp at hk; simp [hk])
        refine loopB_chg L11 c1114 (fun hx => ?_)
        rcases List.mem_cons.1 hx with h' | h'
        · omega
        · have := jq _ h'; omega
      refine And.intro L14 (fun h15 t15 => ?_)
      have c15 : Chg (l :: b5 :: ablk a) h' h15 := c14.step t15.chg (fun k hk _ => by simp at hk; simp [hk])
      have z15 := c15.size
      have pn : p ∉ l :: b5 :: ablk a := fun hm => by
        rcases List.mem_cons.1 hm with h' | h'
        · omega
        · rcases List.mem_cons.1 h' with h' | h'
          · omega
          · have := jq _ h'; omega
      refine .inl ⟨rfl, ⟨⟨t15.rec_, get_chg j.mark c15 (nin _ (by omega) (by omega) (by omega)), j.b1.chg c15 (nin _ (by omega) (by omega) (by omega)), j.chg.fresh c15 (fun x hx => ?_), hps, by omega⟩, j3.chg c15 (nin _ (by omega) (by omega) (by omega)), a6, c6, out ++ [S[k].1], (show Blk h14 b5 _ from p14.blk).chg t15.chg (by simp; omega), ?_, fun q hq => (hq6 q hq).1, ?_⟩, c15.old p hpn pn⟩
      · rcases List.mem_cons.1 hx with h' | h'
        · omega
        · rcases List.mem_cons.1 h' with h' | h'
          · omega
          · have := jq _ h'; omega
      · exact (ho13.chg p14.chg (fun q hq => by have := hq6 q hq; simp; omega)).chg t15.chg (fun q hq => by have := hq6 q hq; simp; omega)
      · rw [htk, liveS_snoc, if_neg (by unfold goneT; rw [hg]; simp), ← je]
  · intro e h8 he
    cases e with
    | panicked ch => exact he.elim
    | outgrown => exact he.elim
    | returned u =>
      obtain ⟨p, j, j3, a, cc, out, j5, jo, jq, je⟩ | hF := he
      rotate_left
      · exact hF.elim
      have hps := j.lt
      have hpn := j.pn
      have hll : l < h8.size := get_lt j.loop.at_
      rw [List.take_of_length_le (Nat.le_refl _)] at je
      refine ⟨.ready, none, j.loop, by simp, fun h9 t9 => ?_⟩
      have E5 := j5.chg t9.chg (by simp; omega)
      refine Exists.intro _ (And.intro (cell_blk E5 rfl) ?_)
      refine And.intro (get_chg j.mark t9.chg (by simp; omega)) (fun h11 p11 => ?_)
      have c811 : Chg [l, D] h8 h11 := t9.chg.trans p11.chg (fun x hx => by simp at hx; simp [hx]) (fun x hx _ => by simp at hx; simp [hx])
      have hfin := jo.chg c811 (fun b hb => by have := jq b hb; simp; omega)
      rw [je] at hfin
      rw [je]
      exact And.intro hfin.sl (j.chg.fresh c811 (by simp; omega))

theorem Size_calls {h : Heap} {kb sb mb c : Nat} {m : List KI} {S : Space} (now : Int) (kr : KR h kb sb mb c m) (hW : Sorted m S) :
    CallsH Tryz.prog 116 [ptr kb, .int .i64 now] h (Ret fun r h' => r = .int .i64 (liveS now S).length ∧ Chg [] h h') := by
  refine f116_calls (by simp) ?_
  refine call_ret (KNames_calls now kr hW) ?_
  rintro r1 h1 ⟨hs, c1⟩
  obtain ⟨a, cc, rfl, _⟩ := hs.form
  exact And.intro rfl c1

end Go.Proofs.YtgmkldaonkbjgaaGreatDoor
set_option maxRecDepth 100000
namespace Go.Proofs.YtgmkldaonkbjgaaGreatDoor.C
open Go Go.Sx Go.Sx.S


def f7r0 : List SOper := [
 o 4 (.mv (b false))]
def f7r1 : List SOper := [
 o 7 (.mv (t 0)),
 o 8 (.len (t 7)),
 o 9 (.cmp .gtr (t 8) (i 20)),
 o 10 (.mv (t 9)),
 n 11 10 (.mv (t 1)),
 n 12 10 (.len (t 11)),
 n 13 10 (.cmp .gtr (t 12) (i 20)),
 o 14 (.pick (t 10) (b true) (t 13))]
def f7r2 : List SOper := [
 o 4 (.mv (b true))]
def f7r3 : List SOper := [
 o 5 (.mv (i 0))]
def f7r4 : List SOper := [
 o 15 (.mv (t 5)),
 o 16 (.mv (t 0)),
 o 17 (.len (t 16)),
 o 18 (.cmp .lss (t 15) (t 17))]
def f7r5 : List SOper := [
 o 21 (.mv (t 0)),
 o 22 (.mv (t 5)),
 o 23 (.ixs 8 (t 21) (t 22)),
 o 24 (.fa 0 (t 23)),
 o 25 (.ld1 (t 24)),
 o 26 (.lens (t 25)),
 o 27 (.cmp .gtr (t 26) (i 300)),
 o 28 (.mv (t 27)),
 n 29 28 (.mv (t 0)),
 n 30 28 (.mv (t 5)),
 n 31 28 (.ixs 8 (t 29) (t 30)),
 n 32 28 (.fa 1 (t 31)),
 n 33 28 (.ldn 7 (t 32)),
 n 34 28 (.call 14 [(t 33)]),
 o 35 (.pick (t 28) (b true) (t 34))]
def f7r6 : List SOper := [
 o 4 (.mv (b true))]
def f7r7 : List SOper := [
 o 19 (.mv (t 5)),
 o 20 (.ar .add (t 19) (i 1)),
 o 5 (.mv (t 20))]
def f7l8 : SCode := (.seq (.seq (.ops f7r4) (.cond (t 18) .skip (.exit 0))) (.seq (.block 1 (.seq (.ops f7r5) (.cond (t 35) (.seq (.ops f7r6) .ret) .skip))) (.ops f7r7)))
def f7r9 : List SOper := [
 o 6 (.mv (i 0))]
def f7r10 : List SOper := [
 o 36 (.mv (t 6)),
 o 37 (.mv (t 1)),
 o 38 (.len (t 37)),
 o 39 (.cmp .lss (t 36) (t 38))]
def f7r11 : List SOper := [
 o 42 (.mv (t 1)),
 o 43 (.mv (t 6)),
 o 44 (.ixs 1 (t 42) (t 43)),
 o 45 (.ld1 (t 44)),
 o 46 (.lens (t 45)),
 o 47 (.cmp .gtr (t 46) (i 300))]
def f7r12 : List SOper := [
 o 4 (.mv (b true))]
def f7r13 : List SOper := [
 o 40 (.mv (t 6)),
 o 41 (.ar .add (t 40) (i 1)),
 o 6 (.mv (t 41))]
def f7l14 : SCode := (.seq (.seq (.ops f7r10) (.cond (t 39) .skip (.exit 2))) (.seq (.block 3 (.seq (.ops f7r11) (.cond (t 47) (.seq (.ops f7r12) .ret) .skip))) (.ops f7r13)))
def f7r15 : List SOper := [
 o 4 (.mv (b false))]
def f7 : SCode := (.seq (.ops f7r0) (.seq (.seq (.ops f7r1) (.cond (t 14) (.seq (.ops f7r2) .ret) .skip)) (.seq (.seq (.ops f7r3) (.block 0 (.loop f7l8))) (.seq (.seq (.ops f7r9) (.block 2 (.loop f7l14))) (.seq (.ops f7r15) .ret)))))
theorem f7_calls : Sound Tryz.prog 7 48 f7 [.t 4] := sound_of mixed Tryz.func7 rfl (by kernel_rfl) (by kernel_rfl) (by kernel_rfl)

def f14r0 : List SOper := [
 o 1 (.box (t 0)),
 o 2 (.mv (b false))]
def f14r1 : List SOper := [
 o 7 (.fa 1 (t 1)),
 o 8 (.ld1 (t 7)),
 o 9 (.lens (t 8)),
 o 3 (.mv (t 9))]
def f14r2 : List SOper := [
 o 10 (.fa 2 (t 1)),
 o 11 (.ld1 (t 10)),
 o 12 (.len (t 11)),
 o 13 (.cmp .gtr (t 12) (i 40)),
 o 14 (.mv (t 13)),
 n 15 14 (.fa 3 (t 1)),
 n 16 14 (.ld1 (t 15)),
 n 17 14 (.len (t 16)),
 n 18 14 (.cmp .gtr (t 17) (i 40)),
 o 19 (.pick (t 14) (b true) (t 18)),
 o 20 (.mv (t 19)),
 n 21 20 (.fa 4 (t 1)),
 n 22 20 (.ld1 (t 21)),
 n 23 20 (.len (t 22)),
 n 24 20 (.cmp .gtr (t 23) (i 40)),
 o 25 (.pick (t 20) (b true) (t 24)),
 o 26 (.mv (t 25)),
 n 27 26 (.mv (t 3)),
 n 28 26 (.cmp .gtr (t 27) (i 2000)),
 o 29 (.pick (t 26) (b true) (t 28))]
def f14r3 : List SOper := [
 o 2 (.mv (b true))]
def f14r4 : List SOper := [
 o 4 (.mv (i 0))]
def f14r5 : List SOper := [
 o 30 (.mv (t 4)),
 o 31 (.fa 2 (t 1)),
 o 32 (.ld1 (t 31)),
 o 33 (.len (t 32)),
 o 34 (.cmp .lss (t 30) (t 33))]
def f14r6 : List SOper := [
 o 37 (.mv (t 3)),
 o 38 (.fa 2 (t 1)),
 o 39 (.ld1 (t 38)),
 o 40 (.mv (t 4)),
 o 41 (.ixs 2 (t 39) (t 40)),
 o 42 (.fa 0 (t 41)),
 o 43 (.ld1 (t 42)),
 o 44 (.lens (t 43)),
 o 45 (.ar .add (t 37) (t 44)),
 o 46 (.fa 2 (t 1)),
 o 47 (.ld1 (t 46)),
 o 48 (.mv (t 4)),
 o 49 (.ixs 2 (t 47) (t 48)),
 o 50 (.fa 1 (t 49)),
 o 51 (.ld1 (t 50)),
 o 52 (.lens (t 51)),
 o 53 (.ar .add (t 45) (t 52)),
 o 3 (.mv (t 53))]
def f14r7 : List SOper := [
 o 54 (.mv (t 3)),
 o 55 (.cmp .gtr (t 54) (i 2000))]
def f14r8 : List SOper := [
 o 2 (.mv (b true))]
def f14r9 : List SOper := [
 o 35 (.mv (t 4)),
 o 36 (.ar .add (t 35) (i 1)),
 o 4 (.mv (t 36))]
def f14l10 : SCode := (.seq (.seq (.ops f14r5) (.cond (t 34) .skip (.exit 0))) (.seq (.block 1 (.seq (.ops f14r6) (.seq (.ops f14r7) (.cond (t 55) (.seq (.ops f14r8) .ret) .skip)))) (.ops f14r9)))
def f14r11 : List SOper := [
 o 5 (.mv (i 0))]
def f14r12 : List SOper := [
 o 56 (.mv (t 5)),
 o 57 (.fa 3 (t 1)),
 o 58 (.ld1 (t 57)),
 o 59 (.len (t 58)),
 o 60 (.cmp .lss (t 56) (t 59))]
def f14r13 : List SOper := [
 o 63 (.mv (t 3)),
 o 64 (.fa 3 (t 1)),
 o 65 (.ld1 (t 64)),
 o 66 (.mv (t 5)),
 o 67 (.ixs 1 (t 65) (t 66)),
 o 68 (.ld1 (t 67)),
 o 69 (.lens (t 68)),
 o 70 (.ar .add (t 63) (t 69)),
 o 3 (.mv (t 70))]
def f14r14 : List SOper := [
 o 71 (.mv (t 3)),
 o 72 (.cmp .gtr (t 71) (i 2000))]
def f14r15 : List SOper := [
 o 2 (.mv (b true))]
def f14r16 : List SOper := [
 o 61 (.mv (t 5)),
 o 62 (.ar .add (t 61) (i 1)),
 o 5 (.mv (t 62))]
def f14l17 : SCode := (.seq (.seq (.ops f14r12) (.cond (t 60) .skip (.exit 2))) (.seq (.block 3 (.seq (.ops f14r13) (.seq (.ops f14r14) (.cond (t 72) (.seq (.ops f14r15) .ret) .skip)))) (.ops f14r16)))
def f14r18 : List SOper := [
 o 6 (.mv (i 0))]
def f14r19 : List SOper := [
 o 73 (.mv (t 6)),
 o 74 (.fa 4 (t 1)),
 o 75 (.ld1 (t 74)),
 o 76 (.len (t 75)),
 o 77 (.cmp .lss (t 73) (t 76))]
def f14r20 : List SOper := [
 o 80 (.mv (t 3)),
 o 81 (.fa 4 (t 1)),
 o 82 (.ld1 (t 81)),
 o 83 (.mv (t 6)),
 o 84 (.ixs 2 (t 82) (t 83)),
 o 85 (.fa 0 (t 84)),
 o 86 (.ld1 (t 85)),
 o 87 (.lens (t 86)),
 o 88 (.ar .add (t 80) (t 87)),
 o 3 (.mv (t 88))]
def f14r21 : List SOper := [
 o 89 (.mv (t 3)),
 o 90 (.cmp .gtr (t 89) (i 2000))]
def f14r22 : List SOper := [
 o 2 (.mv (b true))]
def f14r23 : List SOper := [
 o 78 (.mv (t 6)),
 o 79 (.ar .add (t 78) (i 1)),
 o 6 (.mv (t 79))]
def f14l24 : SCode := (.seq (.seq (.ops f14r19) (.cond (t 77) .skip (.exit 4))) (.seq (.block 5 (.seq (.ops f14r20) (.seq (.ops f14r21) (.cond (t 90) (.seq (.ops f14r22) .ret) .skip)))) (.ops f14r23)))
def f14r25 : List SOper := [
 o 2 (.mv (b false))]
def f14 : SCode := (.seq (.ops f14r0) (.seq (.ops f14r1) (.seq (.seq (.ops f14r2) (.cond (t 29) (.seq (.ops f14r3) .ret) .skip)) (.seq (.seq (.ops f14r4) (.block 0 (.loop f14l10))) (.seq (.seq (.ops f14r11) (.block 2 (.loop f14l17))) (.seq (.seq (.ops f14r18) (.block 4 (.loop f14l24))) (.seq (.ops f14r25) .ret)))))))
theorem f14_calls : Sound Tryz.prog 14 91 f14 [.t 2] := sound_of mixed Tryz.func14 rfl (by kernel_rfl) (by kernel_rfl) (by kernel_rfl)

def f113r0 : List SOper := [
 o 6 (.mv (.const (.slice none 0 0)))]
def f113r1 : List SOper := [
 o 12 (.mv (t 0)),
 o 13 (.mv (t 2)),
 o 14 (.call 78 [(t 12), (t 13)]),
 o 11 (.mv (t 14)),
 o 15 (.ext (t 11) 0),
 o 16 (.ext (t 11) 1),
 o 7 (.new [(.int .i64 0), (.string ⟨#[]⟩), (.slice none 0 0), (.slice none 0 0), (.slice none 0 0), (.bool false), (.int .i64 0)]),
 q (.st 7 (t 7) (t 15)),
 o 8 (.mv (t 16))]
def f113r2 : List SOper := [
 o 18 (.mv (t 0)),
 o 19 (.mv (t 2)),
 o 20 (.mv (t 1)),
 o 21 (.call 106 [(t 18), (t 19), (t 20)]),
 o 17 (.mv (t 21)),
 o 22 (.ext (t 17) 0),
 o 23 (.ext (t 17) 1),
 o 9 (.new [(.int .i64 0), (.string ⟨#[]⟩), (.slice none 0 0), (.slice none 0 0), (.slice none 0 0), (.bool false), (.int .i64 0)]),
 q (.st 7 (t 9) (t 22)),
 o 10 (.mv (t 23))]
def f113r3 : List SOper := [
 o 24 (.mv (t 8)),
 o 25 (.mv (t 24)),
 g 26 25 (.mv (t 10)),
 g 27 25 (.un .not (t 26)),
 o 28 (.pick (t 25) (t 27) (b false))]
def f113r4 : List SOper := [
 o 29 (.mv (t 2)),
 o 30 (.build [(.int .i64 0), (.string ⟨#[]⟩), (.string ⟨#[]⟩), (.string ⟨#[]⟩), (.int .i64 0)] [(0, 1), (1, 1)] [(i 1), (t 29)]),
 o 31 (.bslice [(.int .i64 0), (.string ⟨#[]⟩), (.string ⟨#[]⟩), (.string ⟨#[]⟩), (.int .i64 0)] 1 [(0, 5)] [(t 30)]),
 o 6 (.mv (t 31))]
def f113r5 : List SOper := [
 o 6 (.mv (.const (.slice none 0 0)))]
def f113 : SCode := (.seq (.ops f113r0) (.seq (.ops f113r1) (.seq (.seq (.ops f113r2) (.seq (.ops f113r3) (.cond (t 28) (.seq (.ops f113r4) .ret) .skip))) (.seq (.ops f113r5) .ret))))
theorem f113_calls : Sound Tryz.prog 113 32 f113 [.t 6] := sound_of mixed Tryz.func113 rfl (by kernel_rfl) (by kernel_rfl) (by kernel_rfl)

end Go.Proofs.YtgmkldaonkbjgaaGreatDoor.C
namespace Go.Proofs.YtgmkldaonkbjgaaGreatDoor
open Go Go.Sx Go.Proofs.YtgmkldaonkbjgaaGreatDoor.C

structure SFit (d : List ByteArray) : Prop where
  len : d.length < 4611686018427387904
  each : ∀ e ∈ d, e.size < 4611686018427387904
structure SSmall (d : List ByteArray) : Prop where
  len : d.length ≤ 20
  each : ∀ e ∈ d, e.size ≤ 300

theorem large8_calls {h : Heap} {vs : List Value} {t : Thing} (x : TH h vs t) (f : Fits t) (s : Sized t) :
    CallsH Tryz.prog 14 [.agg ⟨vs⟩] h (Ret fun r h' => (∃ b, r = .bool b ∧ (b = false → Small t)) ∧ Chg [] h h') := by
  have fp := f.p; have fl := f.l; have fr := f.r
  refine f14_calls (by simp) ?_
  intro b1 h1 g1
  have B1 : Blk h1 b1 vs := g1.blk
  have hc := g1.chg
  obtain ⟨pv, lv, rv, rfl, hp, hl, hr⟩ := x.ext hc
  obtain ⟨pa, pc, rfl, _⟩ := hp.form
  obtain ⟨la, lc, rfl, _⟩ := hl.form
  obtain ⟨ra, rc, rfl, _⟩ := hr.form
  have yes : Ret (fun r h' => (∃ b, r = .bool b ∧ (b = false → Small t)) ∧ Chg [] h h') (.returned (retV [Value.bool true])) h1 := ⟨⟨true, rfl, fun h => by cases h⟩, hc⟩
  refine Exists.intro _ (And.intro (cell_blk B1 rfl) ?_)
  refine Exists.intro _ (And.intro (cell_blk B1 rfl) ?_)
  refine And.intro rfl (And.intro (fun _ => yes) (fun n1 => ?_))
  refine Exists.intro _ (And.intro (cell_blk B1 rfl) ?_)
  refine And.intro rfl (And.intro (fun _ => yes) (fun n2 => ?_))
  refine Exists.intro _ (And.intro (cell_blk B1 rfl) ?_)
  refine And.intro rfl (And.intro (fun _ => yes) (fun n3 => ?_))
  refine And.intro rfl (And.intro (fun _ => yes) (fun n4 => ?_))
  have ht := s.text
  -- the pairs
  refine loop_intro (fun i : Nat × Int => [(1, .pointer (some ⟨b1, 0, none⟩)), (3, .int .i64 i.2), (4, .int .i64 i.1)]) (fun i h' => i.1 ≤ t.pairs.length ∧ h' = h1 ∧ 0 ≤ i.2 ∧ i.2 ≤ 2000 ∧ ∀ x ∈ t.pairs.take i.1, x.name.size ≤ 2000 ∧ x.text.size ≤ 2000) (fun i => t.pairs.length - i.1) (0, t.text.size)
    ⟨rfl, rfl, rfl, trivial⟩ ⟨Nat.zero_le _, rfl, by simp only; omega, by simp only; omega, by simp⟩ ?_
  rintro ⟨k, n⟩ h3 ⟨hk, h32, hn0, hn1, hps⟩
  have h32 := h32.symm
  subst h32
  simp only at hk hn0 hn1 hps
  refine Exists.intro _ (And.intro (cell_blk B1 rfl) ?_)
  refine And.intro rfl (And.intro (fun hlt => ?_) (fun hlt => ?_))
  · have hkk : k < t.pairs.length := by omega
    obtain ⟨b3, o, rfl⟩ := hp.addr (by omega)
    have hcs := hp.cells encP_len (i := k) (x := t.pairs[k]) (by simp [hkk])
    obtain ⟨z1, z2⟩ := s.ps t.pairs[k] (List.getElem_mem hkk)
    refine Exists.intro _ (And.intro (cell_blk B1 rfl) ?_)
    refine And.intro (by omega) (And.intro (by omega) (Exists.intro _ (And.intro (hcs 0 _ rfl) ?_)))
    refine And.intro rfl (fun y hy => ?_)
    have hy := add_in hy (by omega) (by omega)
    refine Exists.intro _ (And.intro (cell_blk B1 rfl) ?_)
    refine And.intro (by omega) (And.intro (by omega) (Exists.intro _ (And.intro (hcs 1 _ rfl) ?_)))
    refine And.intro rfl (fun w hw => ?_)
    have hw := add_in hw (by omega) (by omega)
    refine And.intro rfl (And.intro (fun _ => yes) (fun n5 => ?_))
    refine And.intro rfl (fun z hz => ?_)
    have hz := add_in hz (by omega) (by omega)
    subst hz
    refine And.intro rfl (Exists.intro (k + 1, w) (And.intro ?_ (And.intro ?_ ?_)))
    · exact ⟨rfl, rfl, rfl, trivial⟩
    · refine ⟨by simp only; omega, rfl, by simp only; omega, by simp only; omega, fun q hq => ?_⟩
      simp only at hq
      rw [take_snoc t.pairs k hkk] at hq
      rcases List.mem_append.1 hq with hq | hq
      · exact hps q hq
      · have : q = t.pairs[k] := by simpa using hq
        rw [this]; omega
    · simp only; omega
  have hkl : k = t.pairs.length := by omega
  rw [hkl, List.take_length] at hps
  clear hlt hkl hk
  -- the list
  refine loop_intro (fun i : Nat × Int => [(1, .pointer (some ⟨b1, 0, none⟩)), (3, .int .i64 i.2), (5, .int .i64 i.1)]) (fun i h' => i.1 ≤ t.list.length ∧ h' = h1 ∧ 0 ≤ i.2 ∧ i.2 ≤ 2000 ∧ ∀ x ∈ t.list.take i.1, x.size ≤ 2000) (fun i => t.list.length - i.1) (0, n)
    ⟨rfl, rfl, rfl, trivial⟩ ⟨Nat.zero_le _, rfl, by simp only; omega, by simp only; omega, by simp⟩ ?_
  clear hn0 hn1
  rintro ⟨k, n⟩ h3 ⟨hk, h32, hn0, hn1, hls⟩
  have h32 := h32.symm
  subst h32
  simp only at hk hn0 hn1 hls
  refine Exists.intro _ (And.intro (cell_blk B1 rfl) ?_)
  refine And.intro rfl (And.intro (fun hlt => ?_) (fun hlt => ?_))
  · have hkk : k < t.list.length := by omega
    obtain ⟨b3, o, rfl⟩ := hl.addr (by omega)
    have hcs := hl.cells encS_len (i := k) (x := t.list[k]) (by simp [hkk])
    have z1 := s.ls t.list[k] (List.getElem_mem hkk)
    refine Exists.intro _ (And.intro (cell_blk B1 rfl) ?_)
    refine And.intro (by omega) (And.intro (by omega) (Exists.intro _ (And.intro (hcs 0 _ rfl) ?_)))
    refine And.intro rfl (fun w hw => ?_)
    have hw := add_in hw (by omega) (by omega)
    refine And.intro rfl (And.intro (fun _ => yes) (fun n5 => ?_))
    refine And.intro rfl (fun z hz => ?_)
    have hz := add_in hz (by omega) (by omega)
    subst hz
    refine And.intro rfl (Exists.intro (k + 1, w) (And.intro ?_ (And.intro ?_ ?_)))
    · exact ⟨rfl, rfl, rfl, trivial⟩
    · refine ⟨by simp only; omega, rfl, by simp only; omega, by simp only; omega, fun q hq => ?_⟩
      simp only at hq
      rw [take_snoc t.list k hkk] at hq
      rcases List.mem_append.1 hq with hq | hq
      · exact hls q hq
      · have : q = t.list[k] := by simpa using hq
        rw [this]; omega
    · simp only; omega
  have hkl : k = t.list.length := by omega
  rw [hkl, List.take_length] at hls
  clear hlt hkl hk
  -- the ranks
  refine loop_intro (fun i : Nat × Int => [(1, .pointer (some ⟨b1, 0, none⟩)), (3, .int .i64 i.2), (6, .int .i64 i.1)]) (fun i h' => i.1 ≤ t.ranks.length ∧ h' = h1 ∧ 0 ≤ i.2 ∧ i.2 ≤ 2000 ∧ ∀ x ∈ t.ranks.take i.1, x.name.size ≤ 2000) (fun i => t.ranks.length - i.1) (0, n)
    ⟨rfl, rfl, rfl, trivial⟩ ⟨Nat.zero_le _, rfl, by simp only; omega, by simp only; omega, by simp⟩ ?_
  clear hn0 hn1
  rintro ⟨k, n⟩ h3 ⟨hk, h32, hn0, hn1, hrs⟩
  have h32 := h32.symm
  subst h32
  simp only at hk hn0 hn1 hrs
  refine Exists.intro _ (And.intro (cell_blk B1 rfl) ?_)
  refine And.intro rfl (And.intro (fun hlt => ?_) (fun hlt => ?_))
  · have hkk : k < t.ranks.length := by omega
    obtain ⟨b3, o, rfl⟩ := hr.addr (by omega)
    have hcs := hr.cells encR_len (i := k) (x := t.ranks[k]) (by simp [hkk])
    have z1 := s.rs t.ranks[k] (List.getElem_mem hkk)
    refine Exists.intro _ (And.intro (cell_blk B1 rfl) ?_)
    refine And.intro (by omega) (And.intro (by omega) (Exists.intro _ (And.intro (hcs 0 _ rfl) ?_)))
    refine And.intro rfl (fun w hw => ?_)
    have hw := add_in hw (by omega) (by omega)
    refine And.intro rfl (And.intro (fun _ => yes) (fun n5 => ?_))
    refine And.intro rfl (fun z hz => ?_)
    have hz := add_in hz (by omega) (by omega)
    subst hz
    refine And.intro rfl (Exists.intro (k + 1, w) (And.intro ?_ (And.intro ?_ ?_)))
    · exact ⟨rfl, rfl, rfl, trivial⟩
    · refine ⟨by simp only; omega, rfl, by simp only; omega, by simp only; omega, fun q hq => ?_⟩
      simp only at hq
      rw [take_snoc t.ranks k hkk] at hq
      rcases List.mem_append.1 hq with hq | hq
      · exact hrs q hq
      · have : q = t.ranks[k] := by simpa using hq
        rw [this]; omega
    · simp only; omega
  have hkl : k = t.ranks.length := by omega
  rw [hkl, List.take_length] at hrs
  exact ⟨⟨false, rfl, fun _ => ⟨by omega, by omega, by omega, by omega, hps, hls, hrs⟩⟩, hc⟩


theorem vast8_calls {h : Heap} {v u : Value} {l : List RX} {d : List ByteArray} (hv : SL encX h v l) (hu : SL encS h u d) (g : GX h l) (f : XFit l) (fd : SFit d) :
    CallsH Tryz.prog 7 [v, u] h (Ret fun r h' => (∃ b, r = .bool b ∧ (b = false → NVast l ∧ SSmall d)) ∧ Chg [] h h') := by
  have fl := f.len
  have fdl := fd.len
  obtain ⟨a, c, rfl, hlc⟩ := hv.form
  obtain ⟨a', c', rfl, hlc'⟩ := hu.form
  have yes : ∀ h', Chg [] h h' → Ret (fun r h' => (∃ b, r = .bool b ∧ (b = false → NVast l ∧ SSmall d)) ∧ Chg [] h h') (.returned (retV [Value.bool true])) h' := fun h' hc => ⟨⟨true, rfl, fun h => by cases h⟩, hc⟩
  refine f7_calls (by simp) ?_
  refine And.intro rfl (And.intro (fun _ => yes h (Chg.refl h)) (fun n1 => ?_))
  refine And.intro rfl (And.intro (fun _ => yes h (Chg.refl h)) (fun n2 => ?_))
  refine loop_intro (fun k : Nat => [(0, .slice a l.length c), (1, .slice a' d.length c'), (5, .int .i64 k)]) (fun k h' => k ≤ l.length ∧ Chg [] h h' ∧ ∀ x ∈ l.take k, x.key.size ≤ 300 ∧ Small x.thing) (fun k => l.length - k) 0
    ⟨rfl, rfl, rfl, trivial⟩ ⟨Nat.zero_le _, Chg.refl h, by simp⟩ ?_
  rintro k h1 ⟨hk, hc1, hall⟩
  have hv1 := hv.ext hc1
  refine And.intro rfl (And.intro (fun ht => ?_) (fun ht => ?_))
  · have hlt : k < l.length := by omega
    obtain ⟨b, o, rfl⟩ := hv1.addr (by omega)
    have hcs := hv1.cells encX_len (i := k) (x := l[k]) (by simp [hlt])
    have hmem : l[k] ∈ l := List.getElem_mem hlt
    have hkz := f.keys _ hmem
    refine And.intro (by omega) (And.intro (by omega) (Exists.intro _ (And.intro (hcs 0 _ rfl) ?_)))
    refine And.intro rfl (And.intro (fun _ => yes h1 hc1) (fun n3 => ?_))
    refine And.intro (by omega) (And.intro (by omega) (Exists.intro l[k].vs (And.intro l[k].len (And.intro (cells_vs hcs) ?_))))
    refine call_ret (large8_calls ((g.ext hc1) _ hmem) (f.fits _ hmem) (f.sized _ hmem)) ?_
    rintro _ h2 ⟨⟨b2, rfl, hsm⟩, hc2⟩
    cases b2 with
    | true => exact yes h2 (hc1.nil hc2)
    | false =>
      refine And.intro rfl (fun z hz => ?_)
      have hz := add_in hz (by omega) (by omega)
      subst hz
      refine And.intro rfl (Exists.intro (k + 1) (And.intro ?_ (And.intro ?_ ?_)))
      · exact ⟨rfl, rfl, rfl, trivial⟩
      · refine ⟨by omega, hc1.nil hc2, fun x hx => ?_⟩
        rw [take_snoc l k hlt, List.mem_append, List.mem_singleton] at hx
        rcases hx with hx | rfl
        · exact hall x hx
        · exact ⟨by omega, hsm rfl⟩
      · omega
  have hkl : k = l.length := by omega
  rw [hkl, List.take_length] at hall
  clear hkl ht hk hv1
  have nv : NVast l := ⟨by omega, fun x hx => (hall x hx).1, fun x hx => (hall x hx).2⟩
  refine loop_intro (fun k : Nat => [(1, .slice a' d.length c'), (6, .int .i64 k)]) (fun k h' => k ≤ d.length ∧ Chg [] h h' ∧ ∀ e ∈ d.take k, e.size ≤ 300) (fun k => d.length - k) 0
    ⟨rfl, rfl, trivial⟩ ⟨Nat.zero_le _, hc1, by simp⟩ ?_
  clear k hc1
  rintro k h1 ⟨hk, hc1, hall⟩
  have hu1 := hu.ext hc1
  refine And.intro rfl (And.intro (fun ht => ?_) (fun ht => ?_))
  · have hlt : k < d.length := by omega
    obtain ⟨b, o, rfl⟩ := hu1.addr (by omega)
    have hcs := hu1.cells encS_len (i := k) (x := d[k]) (by simp [hlt])
    have z1 := fd.each _ (List.getElem_mem hlt)
    refine And.intro (by omega) (And.intro (by omega) (Exists.intro _ (And.intro (hcs 0 _ rfl) ?_)))
    refine And.intro rfl (And.intro (fun _ => yes h1 hc1) (fun n3 => ?_))
    refine And.intro rfl (fun z hz => ?_)
    have hz := add_in hz (by omega) (by omega)
    subst hz
    refine And.intro rfl (Exists.intro (k + 1) (And.intro ?_ (And.intro ?_ ?_)))
    · exact ⟨rfl, rfl, trivial⟩
    · refine ⟨by omega, hc1, fun x hx => ?_⟩
      rw [take_snoc d k hlt, List.mem_append, List.mem_singleton] at hx
      rcases hx with hx | rfl
      · exact hall x hx
      · omega
    · omega
  have hkl : k = d.length := by omega
  rw [hkl, List.take_length] at hall
  exact ⟨⟨false, rfl, fun _ => ⟨nv, ⟨by omega, hall⟩⟩⟩, hc1⟩

def goneE (key : ByteArray) : Eff := ⟨1, key, noText, noText, 0⟩
def dropsS (S : Space) (key : ByteArray) (now : Int) : List Eff := if (findS S key).isSome = true ∧ (getS S key now).isSome = false then [goneE key] else []

theorem look_is {h : Heap} {kb sb mb c : Nat} {m : List KI} {S : Space} (key : ByteArray) (x : KR h kb sb mb c m) (hs : Sorted m S) :
    CallsH Tryz.prog 78 [ptr kb, .string key] h (Ret fun r h' => (∃ us, us.length = 7 ∧ (∀ u ∈ us, u.oneCell' = true) ∧ r = .tuple #[.agg ⟨us⟩, .bool (findS S key).isSome]) ∧ Chg [] h h') := by
  refine (LookK_calls key x).mono fun e h' he => ?_
  cases e with
  | panicked ch => exact he.elim
  | outgrown => exact he.elim
  | returned v =>
    obtain ⟨hr, hc⟩ := he
    refine ⟨?_, hc⟩
    rcases hr with ⟨i, hi, hk, pv, lv, rv, rfl, ht, _⟩ | ⟨hno, rfl⟩
    · have tx : TH h' (cellsT i.thing pv lv rv) i.thing := ht.th
      refine ⟨_, tx.len, thing_one tx, ?_⟩
      rw [← hk, find_mem hs hi]; rfl
    · refine ⟨zeroV, rfl, by decide, ?_⟩
      rw [find_out hs hno]; rfl

theorem BDrops_calls {h : Heap} {kb sb mb c : Nat} {m : List KI} {S : Space} (key : ByteArray) (now : Int) (x : KR h kb sb mb c m) (hs : Sorted m S) :
    CallsH Tryz.prog 113 [ptr kb, .int .i64 now, .string key] h (Ret fun r h' => OL encD 5 h' r (dropsS S key now) ∧ (∀ b ∈ vblk r, h.size ≤ b) ∧ Chg [] h h') := by
  obtain ⟨fs, hfs⟩ : ∃ b, b = (findS S key).isSome := ⟨_, rfl⟩
  refine f113_calls (by simp) ?_
  refine call_ret (look_is key x hs) ?_
  rintro _ h1 ⟨⟨us, hl, h1c, rfl⟩, c1⟩
  rw [← hfs]
  intro b7 h2 g2
  refine Exists.intro _ (And.intro g2.blk (And.intro (by decide) (And.intro hl (And.intro h1c ?_))))
  intro h3 p3
  have g3 := g2.put p3
  have c3 := c1.nil g3.chg
  obtain ⟨go, hgo⟩ : ∃ go, go = getS S key now := ⟨_, rfl⟩
  refine call_ret (KGet_calls key now (x.ext c3) hs) ?_
  rintro _ h4 ⟨⟨vs, rfl, tv⟩, c4⟩
  rw [← hgo] at tv ⊢
  intro b9 h5 g5
  refine Exists.intro _ (And.intro g5.blk (And.intro (by decide) (And.intro tv.len (And.intro (thing_one tv) ?_))))
  intro h6 p6
  have g6 := g5.put p6
  have c6 := (c3.nil c4).nil g6.chg
  unfold dropsS
  rw [← hfs, ← hgo]
  cases fs with
  | false =>
    rw [if_neg (by simp)]
    exact ⟨OL.nil, fun b hb => (nomatch (show b ∈ ([] : List Nat) from hb)), c6⟩
  | true =>
    cases go with
    | some t =>
      rw [if_neg (by simp)]
      exact ⟨OL.nil, fun b hb => (nomatch (show b ∈ ([] : List Nat) from hb)), c6⟩
    | none =>
      rw [if_pos ⟨rfl, rfl⟩]
      intro b h7 g7
      have z := c6.size
      have i7 := g7.id
      refine ⟨⟨_, 1, rfl, rfl, Nat.le_refl _, [], ?_, rfl⟩, ?_, c6.nil g7.chg⟩
      · exact g7.blk
      · intro b' hb'
        have hb' : b' ∈ [b] := hb'
        have hb' := List.mem_singleton.1 hb'
        omega

end Go.Proofs.YtgmkldaonkbjgaaGreatDoor
set_option maxRecDepth 100000
namespace Go.Proofs.YtgmkldaonkbjgaaGreatDoor.C
open Go Go.Sx Go.Sx.S


def f11r0 : List SOper := [
 o 6 (.new [(.int .i64 0), (.int .i64 0), (.string ⟨#[]⟩), (.slice none 0 0)]),
 o 7 (.new [(.slice none 0 0)]),
 o 8 (.mv (b false))]
def f11r1 : List SOper := [
 o 11 (.mv (t 2)),
 o 12 (.len (t 11)),
 o 13 (.cmp .eql (t 12) (i 0)),
 o 14 (.mv (t 13)),
 n 15 14 (.mv (t 0)),
 n 16 14 (.call 23 [(t 15), (.const (.pointer none))]),
 o 17 (.pick (t 14) (b true) (t 16))]
def f11r2 : List SOper := [
 o 18 (.build [(.int .i64 0), (.int .i64 0), (.string ⟨#[]⟩), (.slice none 0 0)] [] []),
 q (.st 4 (t 6) (t 18)),
 q (.st 1 (t 7) (.const (.slice none 0 0))),
 o 8 (.mv (b false))]
def f11r3 : List SOper := [
 o 21 (.mv (t 2)),
 o 22 (.ixs 1 (t 21) (i 0)),
 o 23 (.ld1 (t 22)),
 o 20 (.callq 24 []),
 o 24 (.callq 25 [(t 23)]),
 o 25 (.look .str .nilFunc true (t 20) (t 24)),
 o 19 (.mv (t 25)),
 o 26 (.ext (t 19) 0),
 o 27 (.ext (t 19) 1),
 o 9 (.mv (t 26)),
 o 8 (.mv (t 27))]
def f11r4 : List SOper := [
 o 28 (.mv (t 8)),
 o 29 (.un .not (t 28))]
def f11r5 : List SOper := [
 o 30 (.build [(.int .i64 0), (.int .i64 0), (.string ⟨#[]⟩), (.slice none 0 0)] [] []),
 q (.st 4 (t 6) (t 30)),
 q (.st 1 (t 7) (.const (.slice none 0 0))),
 o 8 (.mv (b false))]
def f11r6 : List SOper := [
 o 31 (.fn 26 [] [(t 6), (t 7)])]
def f11r7 : List SOper := [
 o 32 (.mv (t 0)),
 o 33 (.mv (t 1)),
 o 34 (.mv (t 2)),
 o 35 (.slc 1 (t 34) (some (i 1)) none),
 o 36 (.build [(.pointer none), (.int .i64 0), (.slice none 0 0), (.slice none 0 0)] [(0, 1), (1, 1), (2, 1)] [(t 32), (t 33), (t 35)]),
 o 37 (.box (t 36)),
 o 10 (.mv (t 37))]
def f11r8 : List SOper := [
 o 38 (.mv (t 9)),
 o 39 (.mv (t 10)),
 o 40 (.callv (t 38) [(t 39)]),
 q (.st 4 (t 6) (t 40))]
def f11p9 : List SOper := [
 o 41 (.ldn 4 (t 6)),
 o 42 (.mv (t 10)),
 o 43 (.nilck (t 42)),
 o 44 (.fa 3 (t 43))]
def f11r9 : List SOper := [
 o 45 (.ld1 (t 44)),
 q (.st 4 (t 6) (t 41)),
 q (.st 1 (t 7) (t 45)),
 o 8 (.mv (b true))]
def f11s9 : List SOper := [
 q (.st 4 (t 6) (t 41)),
 o 45 (.ld1 (t 44)),
 q (.st 1 (t 7) (t 45)),
 o 8 (.mv (b true))]
def f11 : SCode := (.seq (.ops f11r0) (.seq (.seq (.ops f11r1) (.cond (t 17) (.seq (.ops f11r2) .ret) .skip)) (.seq (.ops f11r3) (.seq (.seq (.ops f11r4) (.cond (t 29) (.seq (.ops f11r5) .ret) .skip)) (.seq (.dfr f11r6 none (t 31) []) (.seq (.ops f11r7) (.seq (.ops f11r8) (.seq (.two f11p9 f11r9 f11s9) .ret))))))))
def f26r0 : List SOper := [
 o 7 (.eqn 4 false (t 5))]
def f26r1 : List SOper := [
 o 2 (.mv (t 5))]
def f26r2 : List SOper := [
 o 8 (.tas 80 (.agg #[(.string ⟨#[]⟩)]) true (t 5)),
 o 9 (.ext (t 8) 1),
 o 10 (.ext (t 8) 0)]
def f26r3 : List SOper := [
 o 3 (.new [(.string ⟨#[]⟩)]),
 q (.st 1 (t 3) (t 10))]
def f26r4 : List SOper := [
 o 11 (.fa 0 (t 3)),
 o 12 (.ld1 (t 11)),
 o 13 (.call 27 [(t 12)]),
 q (.st 4 (t 0) (t 13)),
 q (.st 1 (t 1) (.const (.slice none 0 0)))]
def f26r5 : List SOper := [
 o 4 (.mv (t 5))]
def f26r6 : List SOper := [
 o 6 (.mv (t 4)),
 q (.pan (t 6))]
def f26 : SCode := (.seq (.rcv (some 5)) (.block 0 (.seq (.ops f26r0) (.cond (t 7) (.ops f26r1) (.seq (.ops f26r2) (.cond (t 9) (.seq (.ops f26r3) (.ops f26r4)) (.seq (.ops f26r5) (.ops f26r6))))))))
def f27r0 : List SOper := [
 o 2 (.new [(.int .i64 0), (.int .i64 0), (.string ⟨#[]⟩), (.slice none 0 0)])]
def f27r1 : List SOper := [
 o 3 (.mv (t 0)),
 o 4 (.build [(.int .i64 0), (.int .i64 0), (.string ⟨#[]⟩), (.slice none 0 0)] [(0, 1), (2, 1)] [(i 2), (t 3)]),
 q (.st 4 (t 2) (t 4))]
def f27 : SCode := (.seq (.ops f27r0) (.seq (.ops f27r1) .ret))
theorem f27_calls : Sound Tryz.prog 27 5 f27 [.cn 2 4] := sound_of mixed Tryz.func27 rfl (by kernel_rfl) (by kernel_rfl) (by kernel_rfl)

def f59r0 : List SOper := [
 o 2 (.new [(.int .i64 0), (.int .i64 0), (.string ⟨#[]⟩), (.slice none 0 0)])]
def f59r1 : List SOper := [
 o 9 (.mv (t 0)),
 o 10 (.call 64 [(t 9), (i 1), (i 65536)])]
def f59r2 : List SOper := [
 o 11 (.mkm),
 o 3 (.mv (t 11))]
def f59r3 : List SOper := [
 o 4 (.mv (i 0))]
def f59r4 : List SOper := [
 o 12 (.mv (t 0)),
 o 13 (.nilck (t 12)),
 o 14 (.fa 2 (t 13)),
 o 15 (.ld1 (t 14)),
 o 16 (.len (t 15)),
 o 17 (.mv (i 0))]
def f59r5 : List SOper := [
 o 18 (.cmp .lss (t 17) (t 16))]
def f59r6 : List SOper := [
 o 19 (.ixs 1 (t 15) (t 17)),
 o 20 (.ld1 (t 19)),
 o 6 (.mv (t 20))]
def f59r7 : List SOper := [
 o 21 (.mv (t 3)),
 o 22 (.mv (t 6)),
 o 23 (.look .str (.int .i64 0) false (t 21) (t 22)),
 o 24 (.ar .add (t 23) (i 1)),
 q (.mup .str (t 21) (t 22) (t 24))]
def f59r8 : List SOper := [
 o 25 (.mv (t 3)),
 o 26 (.mv (t 6)),
 o 27 (.look .str (.int .i64 0) false (t 25) (t 26)),
 o 28 (.cmp .gtr (t 27) (i 1))]
def f59p9 : List SOper := [
 o 30 (.mv (t 0)),
 o 31 (.nilck (t 30)),
 o 32 (.fa 0 (t 31)),
 o 33 (.ld1 (t 32)),
 o 34 (.mv (t 6)),
 o 35 (.mv (t 0)),
 o 36 (.nilck (t 35)),
 o 37 (.fa 1 (t 36)),
 o 38 (.ld1 (t 37))]
def f59r9 : List SOper := [
 o 39 (.callq 106 [(t 33), (t 34), (t 38)]),
 o 29 (.mv (t 39)),
 o 40 (.ext (t 29) 0),
 o 41 (.ext (t 29) 1),
 o 7 (.new [(.int .i64 0), (.string ⟨#[]⟩), (.slice none 0 0), (.slice none 0 0), (.slice none 0 0), (.bool false), (.int .i64 0)]),
 q (.st 7 (t 7) (t 40)),
 o 8 (.mv (t 41))]
def f59s9 : List SOper := [
 o 7 (.new [(.int .i64 0), (.string ⟨#[]⟩), (.slice none 0 0), (.slice none 0 0), (.slice none 0 0), (.bool false), (.int .i64 0)]),
 o 39 (.callq 106 [(t 33), (t 34), (t 38)]),
 o 29 (.mv (t 39)),
 o 40 (.ext (t 29) 0),
 o 41 (.ext (t 29) 1),
 q (.st 7 (t 7) (t 40)),
 o 8 (.mv (t 41))]
def f59r10 : List SOper := [
 o 42 (.mv (t 8))]
def f59r11 : List SOper := [
 o 43 (.mv (t 4)),
 o 44 (.ar .add (t 43) (i 1)),
 o 4 (.mv (t 44))]
def f59r12 : List SOper := [
 o 45 (.mv (t 0)),
 o 46 (.mv (t 6)),
 o 47 (.build [(.int .i64 0), (.string ⟨#[]⟩), (.string ⟨#[]⟩), (.string ⟨#[]⟩), (.int .i64 0)] [(0, 1), (1, 1)] [(i 1), (t 46)]),
 o 48 (.bslice [(.int .i64 0), (.string ⟨#[]⟩), (.string ⟨#[]⟩), (.string ⟨#[]⟩), (.int .i64 0)] 1 [(0, 5)] [(t 47)]),
 o 49 (.call 104 [(t 45), (t 48)])]
def f59r13 : List SOper := [
 o 50 (.ar .add (t 17) (i 1)),
 o 17 (.mv (t 50))]
def f59l14 : SCode := (.seq (.ops f59r5) (.seq (.cond (t 18) .skip (.exit 0)) (.seq (.block 1 (.seq (.ops f59r6) (.seq (.seq (.ops f59r7) (.seq (.ops f59r8) (.cond (t 28) (.exit 1) .skip))) (.seq (.two f59p9 f59r9 f59s9) (.seq (.ops f59r10) (.cond (t 42) (.seq (.ops f59r11) (.ops f59r12)) .skip)))))) (.ops f59r13))))
def f59r15 : List SOper := [
 o 51 (.mv (t 4)),
 o 52 (.call 109 [(t 51)]),
 q (.st 4 (t 2) (t 52))]
def f59 : SCode := (.seq (.ops f59r0) (.seq (.ops f59r1) (.seq (.ops f59r2) (.seq (.ops f59r3) (.seq (.seq (.ops f59r4) (.block 0 (.loop f59l14))) (.seq (.ops f59r15) .ret))))))
theorem f59_calls : Sound Tryz.prog 59 53 f59 [.cn 2 4] := sound_of mixed Tryz.func59 rfl (by kernel_rfl) (by kernel_rfl) (by kernel_rfl)

def f60r0 : List SOper := [
 o 2 (.new [(.int .i64 0), (.int .i64 0), (.string ⟨#[]⟩), (.slice none 0 0)])]
def f60r1 : List SOper := [
 o 8 (.mv (t 0)),
 o 9 (.call 64 [(t 8), (i 1), (i 65536)])]
def f60r2 : List SOper := [
 o 3 (.mv (i 0))]
def f60r3 : List SOper := [
 o 10 (.mv (t 0)),
 o 11 (.nilck (t 10)),
 o 12 (.fa 2 (t 11)),
 o 13 (.ld1 (t 12)),
 o 14 (.len (t 13)),
 o 15 (.mv (i 0))]
def f60r4 : List SOper := [
 o 16 (.cmp .lss (t 15) (t 14))]
def f60r5 : List SOper := [
 o 17 (.ixs 1 (t 13) (t 15)),
 o 18 (.ld1 (t 17)),
 o 5 (.mv (t 18))]
def f60p6 : List SOper := [
 o 20 (.mv (t 0)),
 o 21 (.nilck (t 20)),
 o 22 (.fa 0 (t 21)),
 o 23 (.ld1 (t 22)),
 o 24 (.mv (t 5)),
 o 25 (.mv (t 0)),
 o 26 (.nilck (t 25)),
 o 27 (.fa 1 (t 26)),
 o 28 (.ld1 (t 27))]
def f60r6 : List SOper := [
 o 29 (.callq 106 [(t 23), (t 24), (t 28)]),
 o 19 (.mv (t 29)),
 o 30 (.ext (t 19) 0),
 o 31 (.ext (t 19) 1),
 o 6 (.new [(.int .i64 0), (.string ⟨#[]⟩), (.slice none 0 0), (.slice none 0 0), (.slice none 0 0), (.bool false), (.int .i64 0)]),
 q (.st 7 (t 6) (t 30)),
 o 7 (.mv (t 31))]
def f60s6 : List SOper := [
 o 6 (.new [(.int .i64 0), (.string ⟨#[]⟩), (.slice none 0 0), (.slice none 0 0), (.slice none 0 0), (.bool false), (.int .i64 0)]),
 o 29 (.callq 106 [(t 23), (t 24), (t 28)]),
 o 19 (.mv (t 29)),
 o 30 (.ext (t 19) 0),
 o 31 (.ext (t 19) 1),
 q (.st 7 (t 6) (t 30)),
 o 7 (.mv (t 31))]
def f60r7 : List SOper := [
 o 32 (.mv (t 7))]
def f60r8 : List SOper := [
 o 33 (.mv (t 3)),
 o 34 (.ar .add (t 33) (i 1)),
 o 3 (.mv (t 34))]
def f60r9 : List SOper := [
 o 35 (.ar .add (t 15) (i 1)),
 o 15 (.mv (t 35))]
def f60l10 : SCode := (.seq (.ops f60r4) (.seq (.cond (t 16) .skip (.exit 0)) (.seq (.block 1 (.seq (.ops f60r5) (.seq (.two f60p6 f60r6 f60s6) (.seq (.ops f60r7) (.cond (t 32) (.ops f60r8) .skip))))) (.ops f60r9))))
def f60r11 : List SOper := [
 o 36 (.mv (t 3)),
 o 37 (.call 109 [(t 36)]),
 q (.st 4 (t 2) (t 37))]
def f60 : SCode := (.seq (.ops f60r0) (.seq (.ops f60r1) (.seq (.ops f60r2) (.seq (.seq (.ops f60r3) (.block 0 (.loop f60l10))) (.seq (.ops f60r11) .ret)))))
theorem f60_calls : Sound Tryz.prog 60 38 f60 [.cn 2 4] := sound_of mixed Tryz.func60 rfl (by kernel_rfl) (by kernel_rfl) (by kernel_rfl)

def f64r0 : List SOper := [
 o 6 (.mv (t 0)),
 o 7 (.nilck (t 6)),
 o 8 (.fa 2 (t 7)),
 o 9 (.ld1 (t 8)),
 o 10 (.len (t 9)),
 o 11 (.mv (t 1)),
 o 12 (.cmp .geq (t 10) (t 11)),
 o 13 (.mv (t 12)),
 g 14 13 (.mv (t 0)),
 g 15 13 (.nilck (t 14)),
 g 16 13 (.fa 2 (t 15)),
 g 17 13 (.ld1 (t 16)),
 g 18 13 (.len (t 17)),
 g 19 13 (.mv (t 2)),
 g 20 13 (.cmp .leq (t 18) (t 19)),
 o 21 (.pick (t 13) (t 20) (b false)),
 o 22 (.call 101 [(t 21), (.const (.string ⟨#[69, 82, 82, 32, 97, 114, 103, 115]⟩))])]
def f64 : SCode := (.ops f64r0)
theorem f64_calls : Sound Tryz.prog 64 23 f64 [] := sound_of mixed Tryz.func64 rfl (by kernel_rfl) (by kernel_rfl) (by kernel_rfl)

def f65r0 : List SOper := [
 o 4 (.new [(.int .i64 0), (.int .i64 0), (.string ⟨#[]⟩), (.slice none 0 0)])]
def f65r1 : List SOper := [
 o 10 (.mv (t 0)),
 o 11 (.mv (t 0)),
 o 12 (.nilck (t 11)),
 o 13 (.fa 2 (t 12)),
 o 14 (.ld1 (t 13)),
 o 15 (.ixs 1 (t 14) (i 0)),
 o 16 (.ld1 (t 15)),
 o 17 (.call 107 [(t 10), (t 16)]),
 o 9 (.mv (t 17)),
 o 18 (.ext (t 9) 0),
 o 19 (.ext (t 9) 1),
 o 5 (.mv (t 18)),
 o 6 (.mv (t 19))]
def f65r2 : List SOper := [
 o 20 (.mv (t 6)),
 o 21 (.un .not (t 20))]
def f65r3 : List SOper := [
 o 5 (.mv (.const (.string ⟨#[48]⟩)))]
def f65r4 : List SOper := [
 o 23 (.mv (t 5)),
 o 24 (.call 111 [(t 23)]),
 o 22 (.mv (t 24)),
 o 25 (.ext (t 22) 0),
 o 26 (.ext (t 22) 1),
 o 7 (.mv (t 25)),
 o 8 (.mv (t 26))]
def f65r5 : List SOper := [
 o 27 (.mv (t 8)),
 o 28 (.call 101 [(t 27), (.const (.string ⟨#[69, 82, 82, 32, 110, 117, 109, 98, 101, 114]⟩))])]
def f65r6 : List SOper := [
 o 29 (.mv (t 7)),
 o 30 (.mv (t 1)),
 o 31 (.call 102 [(t 29), (t 30)]),
 o 7 (.mv (t 31))]
def f65r7 : List SOper := [
 o 32 (.mv (t 0)),
 o 33 (.mv (t 0)),
 o 34 (.nilck (t 33)),
 o 35 (.fa 2 (t 34)),
 o 36 (.ld1 (t 35)),
 o 37 (.ixs 1 (t 36) (i 0)),
 o 38 (.ld1 (t 37)),
 o 39 (.mv (t 7)),
 o 40 (.callq 30 [(t 39), (i 10)]),
 o 41 (.call 103 [(t 32), (t 38), (t 40), (b true)])]
def f65r8 : List SOper := [
 o 42 (.mv (t 7)),
 o 43 (.call 109 [(t 42)]),
 q (.st 4 (t 4) (t 43))]
def f65 : SCode := (.seq (.ops f65r0) (.seq (.ops f65r1) (.seq (.seq (.ops f65r2) (.cond (t 21) (.ops f65r3) .skip)) (.seq (.ops f65r4) (.seq (.ops f65r5) (.seq (.ops f65r6) (.seq (.ops f65r7) (.seq (.ops f65r8) .ret))))))))
theorem f65_calls : Sound Tryz.prog 65 44 f65 [.cn 4 4] := sound_of mixed Tryz.func65 rfl (by kernel_rfl) (by kernel_rfl) (by kernel_rfl)

def f66r0 : List SOper := [
 o 4 (.mv (i 0))]
def f66r1 : List SOper := [
 o 8 (.mv (t 0)),
 o 9 (.nilck (t 8)),
 o 10 (.fa 2 (t 9)),
 o 11 (.ld1 (t 10)),
 o 12 (.mv (t 1)),
 o 13 (.ixs 1 (t 11) (t 12)),
 o 14 (.ld1 (t 13)),
 o 15 (.call 111 [(t 14)]),
 o 7 (.mv (t 15)),
 o 16 (.ext (t 7) 0),
 o 17 (.ext (t 7) 1),
 o 5 (.mv (t 16)),
 o 6 (.mv (t 17))]
def f66r2 : List SOper := [
 o 18 (.mv (t 6)),
 o 19 (.call 101 [(t 18), (.const (.string ⟨#[69, 82, 82, 32, 110, 117, 109, 98, 101, 114]⟩))])]
def f66r3 : List SOper := [
 o 20 (.mv (t 5)),
 o 4 (.mv (t 20))]
def f66 : SCode := (.seq (.ops f66r0) (.seq (.ops f66r1) (.seq (.ops f66r2) (.seq (.ops f66r3) .ret))))
theorem f66_calls : Sound Tryz.prog 66 21 f66 [.t 4] := sound_of mixed Tryz.func66 rfl (by kernel_rfl) (by kernel_rfl) (by kernel_rfl)

def f69r0 : List SOper := [
 o 2 (.new [(.int .i64 0), (.int .i64 0), (.string ⟨#[]⟩), (.slice none 0 0)])]
def f69r1 : List SOper := [
 o 8 (.mv (t 0)),
 o 9 (.call 64 [(t 8), (i 1), (i 65536)])]
def f69r2 : List SOper := [
 o 3 (.mv (.const (.slice none 0 0)))]
def f69r3 : List SOper := [
 o 10 (.mv (t 0)),
 o 11 (.nilck (t 10)),
 o 12 (.fa 2 (t 11)),
 o 13 (.ld1 (t 12)),
 o 14 (.len (t 13)),
 o 15 (.mv (i 0))]
def f69r4 : List SOper := [
 o 16 (.cmp .lss (t 15) (t 14))]
def f69r5 : List SOper := [
 o 17 (.ixs 1 (t 13) (t 15)),
 o 18 (.ld1 (t 17)),
 o 5 (.mv (t 18))]
def f69p6 : List SOper := [
 o 20 (.mv (t 0)),
 o 21 (.nilck (t 20)),
 o 22 (.fa 0 (t 21)),
 o 23 (.ld1 (t 22)),
 o 24 (.mv (t 5)),
 o 25 (.mv (t 0)),
 o 26 (.nilck (t 25)),
 o 27 (.fa 1 (t 26)),
 o 28 (.ld1 (t 27))]
def f69r6 : List SOper := [
 o 29 (.callq 106 [(t 23), (t 24), (t 28)]),
 o 19 (.mv (t 29)),
 o 30 (.ext (t 19) 0),
 o 31 (.ext (t 19) 1),
 o 6 (.new [(.int .i64 0), (.string ⟨#[]⟩), (.slice none 0 0), (.slice none 0 0), (.slice none 0 0), (.bool false), (.int .i64 0)]),
 q (.st 7 (t 6) (t 30)),
 o 7 (.mv (t 31))]
def f69s6 : List SOper := [
 o 6 (.new [(.int .i64 0), (.string ⟨#[]⟩), (.slice none 0 0), (.slice none 0 0), (.slice none 0 0), (.bool false), (.int .i64 0)]),
 o 29 (.callq 106 [(t 23), (t 24), (t 28)]),
 o 19 (.mv (t 29)),
 o 30 (.ext (t 19) 0),
 o 31 (.ext (t 19) 1),
 q (.st 7 (t 6) (t 30)),
 o 7 (.mv (t 31))]
def f69r7 : List SOper := [
 o 32 (.mv (t 7)),
 o 33 (.mv (t 32)),
 g 34 33 (.fa 0 (t 6)),
 g 35 33 (.ld1 (t 34)),
 g 36 33 (.cmp .eql (t 35) (i 1)),
 o 37 (.pick (t 33) (t 36) (b false))]
def f69r8 : List SOper := [
 o 38 (.mv (t 3)),
 o 39 (.fa 1 (t 6)),
 o 40 (.ld1 (t 39)),
 o 41 (.call 108 [(t 40)]),
 o 42 (.bslice [(.int .i64 0), (.int .i64 0), (.string ⟨#[]⟩), (.slice none 0 0)] 1 [(0, 4)] [(t 41)]),
 o 43 (.app 4 56 [(.int .i64 0), (.int .i64 0), (.string ⟨#[]⟩), (.slice none 0 0)] (t 38) (t 42)),
 o 3 (.mv (t 43))]
def f69r9 : List SOper := [
 o 44 (.mv (t 3)),
 o 45 (.build [(.int .i64 0), (.int .i64 0), (.string ⟨#[]⟩), (.slice none 0 0)] [] []),
 o 46 (.bslice [(.int .i64 0), (.int .i64 0), (.string ⟨#[]⟩), (.slice none 0 0)] 1 [(0, 4)] [(t 45)]),
 o 47 (.app 4 56 [(.int .i64 0), (.int .i64 0), (.string ⟨#[]⟩), (.slice none 0 0)] (t 44) (t 46)),
 o 3 (.mv (t 47))]
def f69r10 : List SOper := [
 o 48 (.ar .add (t 15) (i 1)),
 o 15 (.mv (t 48))]
def f69l11 : SCode := (.seq (.ops f69r4) (.seq (.cond (t 16) .skip (.exit 0)) (.seq (.block 1 (.seq (.ops f69r5) (.seq (.two f69p6 f69r6 f69s6) (.seq (.ops f69r7) (.cond (t 37) (.ops f69r8) (.ops f69r9)))))) (.ops f69r10))))
def f69r12 : List SOper := [
 o 49 (.mv (t 3)),
 o 50 (.call 112 [(t 49)]),
 q (.st 4 (t 2) (t 50))]
def f69 : SCode := (.seq (.ops f69r0) (.seq (.ops f69r1) (.seq (.ops f69r2) (.seq (.seq (.ops f69r3) (.block 0 (.loop f69l11))) (.seq (.ops f69r12) .ret)))))
theorem f69_calls : Sound Tryz.prog 69 51 f69 [.cn 2 4] := sound_of mixed Tryz.func69 rfl (by kernel_rfl) (by kernel_rfl) (by kernel_rfl)

def f70r0 : List SOper := [
 o 2 (.new [(.int .i64 0), (.int .i64 0), (.string ⟨#[]⟩), (.slice none 0 0)])]
def f70r1 : List SOper := [
 o 7 (.mv (t 0)),
 o 8 (.call 64 [(t 7), (i 2), (i 65536)])]
def f70r2 : List SOper := [
 o 9 (.mv (t 0)),
 o 10 (.nilck (t 9)),
 o 11 (.fa 2 (t 10)),
 o 12 (.ld1 (t 11)),
 o 13 (.len (t 12)),
 o 14 (.rem (t 13) (i 2)),
 o 15 (.cmp .eql (t 14) (i 0)),
 o 16 (.call 101 [(t 15), (.const (.string ⟨#[69, 82, 82, 32, 97, 114, 103, 115]⟩))])]
def f70r3 : List SOper := [
 o 17 (.mkm),
 o 3 (.mv (t 17))]
def f70r4 : List SOper := [
 o 4 (.mv (i 0))]
def f70r5 : List SOper := [
 o 18 (.mv (t 4)),
 o 19 (.mv (t 0)),
 o 20 (.nilck (t 19)),
 o 21 (.fa 2 (t 20)),
 o 22 (.ld1 (t 21)),
 o 23 (.len (t 22)),
 o 24 (.cmp .lss (t 18) (t 23))]
def f70r6 : List SOper := [
 o 27 (.mv (t 0)),
 o 28 (.nilck (t 27)),
 o 29 (.fa 2 (t 28)),
 o 30 (.ld1 (t 29)),
 o 31 (.mv (t 4)),
 o 32 (.ixs 1 (t 30) (t 31)),
 o 33 (.ld1 (t 32)),
 o 34 (.mv (t 0)),
 o 35 (.nilck (t 34)),
 o 36 (.fa 2 (t 35)),
 o 37 (.ld1 (t 36)),
 o 38 (.mv (t 4)),
 o 39 (.ar .add (t 38) (i 1)),
 o 40 (.ixs 1 (t 37) (t 39)),
 o 41 (.ld1 (t 40)),
 o 5 (.mv (t 33)),
 o 6 (.mv (t 41))]
def f70r7 : List SOper := [
 o 42 (.mv (t 6)),
 o 43 (.lens (t 42)),
 o 44 (.cmp .leq (t 43) (i 1048576)),
 o 45 (.mv (t 44)),
 g 46 45 (.mv (t 5)),
 g 47 45 (.lens (t 46)),
 g 48 45 (.cmp .leq (t 47) (i 1048576)),
 o 49 (.pick (t 45) (t 48) (b false)),
 o 50 (.call 101 [(t 49), (.const (.string ⟨#[69, 82, 82, 32, 108, 111, 110, 103]⟩))])]
def f70r8 : List SOper := [
 o 51 (.mv (t 3)),
 o 52 (.mv (t 5)),
 o 53 (.look .str (.int .i64 0) false (t 51) (t 52)),
 o 54 (.ar .add (t 53) (i 1)),
 q (.mup .str (t 51) (t 52) (t 54))]
def f70r9 : List SOper := [
 o 55 (.mv (t 3)),
 o 56 (.mv (t 5)),
 o 57 (.look .str (.int .i64 0) false (t 55) (t 56)),
 o 58 (.cmp .eql (t 57) (i 1))]
def f70r10 : List SOper := [
 o 59 (.mv (t 0)),
 o 60 (.mv (t 0)),
 o 61 (.nilck (t 60)),
 o 62 (.fa 0 (t 61)),
 o 63 (.ld1 (t 62)),
 o 64 (.mv (t 0)),
 o 65 (.nilck (t 64)),
 o 66 (.fa 1 (t 65)),
 o 67 (.ld1 (t 66)),
 o 68 (.mv (t 5)),
 o 69 (.call 113 [(t 63), (t 67), (t 68)]),
 o 70 (.call 104 [(t 59), (t 69)])]
def f70r11 : List SOper := [
 o 71 (.mv (t 0)),
 o 72 (.mv (t 5)),
 o 73 (.mv (t 6)),
 o 74 (.build [(.int .i64 0), (.string ⟨#[]⟩), (.string ⟨#[]⟩), (.string ⟨#[]⟩), (.int .i64 0)] [(0, 1), (1, 1), (3, 1)] [(i 2), (t 72), (t 73)]),
 o 75 (.bslice [(.int .i64 0), (.string ⟨#[]⟩), (.string ⟨#[]⟩), (.string ⟨#[]⟩), (.int .i64 0)] 1 [(0, 5)] [(t 74)]),
 o 76 (.call 104 [(t 71), (t 75)])]
def f70r12 : List SOper := [
 o 25 (.mv (t 4)),
 o 26 (.ar .add (t 25) (i 2)),
 o 4 (.mv (t 26))]
def f70l13 : SCode := (.seq (.seq (.ops f70r5) (.cond (t 24) .skip (.exit 0))) (.seq (.block 1 (.seq (.ops f70r6) (.seq (.ops f70r7) (.seq (.seq (.ops f70r8) (.seq (.ops f70r9) (.cond (t 58) (.ops f70r10) .skip))) (.ops f70r11))))) (.ops f70r12)))
def f70r14 : List SOper := [
 o 77 (.call 105 []),
 q (.st 4 (t 2) (t 77))]
def f70 : SCode := (.seq (.ops f70r0) (.seq (.ops f70r1) (.seq (.ops f70r2) (.seq (.ops f70r3) (.seq (.seq (.ops f70r4) (.block 0 (.loop f70l13))) (.seq (.ops f70r14) .ret))))))
theorem f70_calls : Sound Tryz.prog 70 78 f70 [.cn 2 4] := sound_of mixed Tryz.func70 rfl (by kernel_rfl) (by kernel_rfl) (by kernel_rfl)

def f74r0 : List SOper := [
 o 2 (.new [(.int .i64 0), (.int .i64 0), (.string ⟨#[]⟩), (.slice none 0 0)])]
def f74r1 : List SOper := [
 o 6 (.mv (t 0)),
 o 7 (.call 64 [(t 6), (i 0), (i 0)])]
def f74r2 : List SOper := [
 o 3 (.mv (.const (.slice none 0 0)))]
def f74r3 : List SOper := [
 o 8 (.mv (t 0)),
 o 9 (.nilck (t 8)),
 o 10 (.fa 0 (t 9)),
 o 11 (.ld1 (t 10)),
 o 12 (.mv (t 0)),
 o 13 (.nilck (t 12)),
 o 14 (.fa 1 (t 13)),
 o 15 (.ld1 (t 14)),
 o 18 (.mv (i 0)),
 o 16 (.call 115 [(t 11), (t 15)]),
 o 17 (.len (t 16))]
def f74r4 : List SOper := [
 o 19 (.cmp .lss (t 18) (t 17))]
def f74r5 : List SOper := [
 o 20 (.ixs 1 (t 16) (t 18)),
 o 21 (.ld1 (t 20)),
 o 5 (.mv (t 21))]
def f74r6 : List SOper := [
 o 22 (.mv (t 3)),
 o 23 (.mv (t 5)),
 o 24 (.call 108 [(t 23)]),
 o 25 (.bslice [(.int .i64 0), (.int .i64 0), (.string ⟨#[]⟩), (.slice none 0 0)] 1 [(0, 4)] [(t 24)]),
 o 26 (.app 4 56 [(.int .i64 0), (.int .i64 0), (.string ⟨#[]⟩), (.slice none 0 0)] (t 22) (t 25)),
 o 3 (.mv (t 26))]
def f74r7 : List SOper := [
 o 27 (.ar .add (t 18) (i 1)),
 o 18 (.mv (t 27))]
def f74l8 : SCode := (.seq (.ops f74r4) (.seq (.cond (t 19) .skip (.exit 0)) (.seq (.block 1 (.seq (.ops f74r5) (.ops f74r6))) (.ops f74r7))))
def f74r9 : List SOper := [
 o 28 (.mv (t 3)),
 o 29 (.call 112 [(t 28)]),
 q (.st 4 (t 2) (t 29))]
def f74 : SCode := (.seq (.ops f74r0) (.seq (.ops f74r1) (.seq (.ops f74r2) (.seq (.seq (.ops f74r3) (.block 0 (.loop f74l8))) (.seq (.ops f74r9) .ret)))))
theorem f74_calls : Sound Tryz.prog 74 30 f74 [.cn 2 4] := sound_of mixed Tryz.func74 rfl (by kernel_rfl) (by kernel_rfl) (by kernel_rfl)

def f75r0 : List SOper := [
 o 2 (.new [(.int .i64 0), (.int .i64 0), (.string ⟨#[]⟩), (.slice none 0 0)])]
def f75r1 : List SOper := [
 o 3 (.mv (t 0)),
 o 4 (.call 64 [(t 3), (i 0), (i 0)])]
def f75r2 : List SOper := [
 o 5 (.mv (t 0)),
 o 6 (.nilck (t 5)),
 o 7 (.fa 0 (t 6)),
 o 8 (.ld1 (t 7)),
 o 9 (.mv (t 0)),
 o 10 (.nilck (t 9)),
 o 11 (.fa 1 (t 10)),
 o 12 (.ld1 (t 11)),
 o 13 (.call 116 [(t 8), (t 12)]),
 o 14 (.call 109 [(t 13)]),
 q (.st 4 (t 2) (t 14))]
def f75 : SCode := (.seq (.ops f75r0) (.seq (.ops f75r1) (.seq (.ops f75r2) .ret)))
theorem f75_calls : Sound Tryz.prog 75 15 f75 [.cn 2 4] := sound_of mixed Tryz.func75 rfl (by kernel_rfl) (by kernel_rfl) (by kernel_rfl)

def f76r0 : List SOper := [
 o 1 (.box (t 0)),
 o 2 (.new [(.int .i64 0), (.int .i64 0), (.string ⟨#[]⟩), (.slice none 0 0)])]
def f76r1 : List SOper := [
 o 4 (.ld1 (t 1)),
 o 5 (.call 64 [(t 4), (i 0), (i 0)])]
def f76r2 : List SOper := [
 o 6 (.ld1 (t 1)),
 o 7 (.nilck (t 6)),
 o 8 (.fa 0 (t 7)),
 o 9 (.ld1 (t 8)),
 o 10 (.call 39 [(t 9)])]
def f76r3 : List SOper := [
 o 3 (.mv (t 11))]
def f76r4 : List SOper := [
 o 13 (.ld1 (t 1)),
 o 14 (.mv (t 3)),
 o 15 (.build [(.int .i64 0), (.string ⟨#[]⟩), (.string ⟨#[]⟩), (.string ⟨#[]⟩), (.int .i64 0)] [(0, 1), (1, 1)] [(i 1), (t 14)]),
 o 16 (.bslice [(.int .i64 0), (.string ⟨#[]⟩), (.string ⟨#[]⟩), (.string ⟨#[]⟩), (.int .i64 0)] 1 [(0, 5)] [(t 15)]),
 o 17 (.call 104 [(t 13), (t 16)])]
def f76a5 : SCode := (.ops f76r3)
def f76b5 : SCode := (.block 1 (.ops f76r4))
def f76r6 : List SOper := [
 o 18 (.call 105 []),
 q (.st 4 (t 2) (t 18))]
def f76 : SCode := (.seq (.ops f76r0) (.seq (.ops f76r1) (.seq (.seq (.ops f76r2) (.block 0 (.rangeF (t 10) [11, 12] f76a5 f76b5))) (.seq (.ops f76r6) .ret))))
theorem f76_calls : Sound Tryz.prog 76 19 f76 [.cn 2 4] := sound_of mixed Tryz.func76 rfl (by kernel_rfl) (by kernel_rfl) (by kernel_rfl)

def f101r0 : List SOper := [
 o 4 (.mv (t 0)),
 o 5 (.un .not (t 4))]
def f101r1 : List SOper := [
 o 6 (.mv (t 1)),
 o 7 (.build [(.string ⟨#[]⟩)] [(0, 1)] [(t 6)]),
 o 8 (.mki 80 (t 7)),
 q (.pan (t 8))]
def f101 : SCode := (.seq (.ops f101r0) (.cond (t 5) (.ops f101r1) .skip))
theorem f101_calls : Sound Tryz.prog 101 9 f101 [] := sound_of mixed Tryz.func101 rfl (by kernel_rfl) (by kernel_rfl) (by kernel_rfl)

def f102r0 : List SOper := [
 o 4 (.mv (i 0))]
def f102r1 : List SOper := [
 o 5 (.mv (t 1)),
 o 6 (.cmp .geq (t 5) (i 0)),
 o 7 (.mv (t 6)),
 g 8 7 (.mv (t 0)),
 g 9 7 (.mv (t 1)),
 g 10 7 (.ar .sub (i 9223372036854775807) (t 9)),
 g 11 7 (.cmp .leq (t 8) (t 10)),
 o 12 (.pick (t 7) (t 11) (b false)),
 o 13 (.mv (t 12)),
 n 14 13 (.mv (t 1)),
 n 15 13 (.cmp .lss (t 14) (i 0)),
 n 16 13 (.mv (t 15)),
 g 17 16 (.mv (t 0)),
 g 18 16 (.mv (t 1)),
 g 19 16 (.ar .sub (i (-9223372036854775808)) (t 18)),
 g 20 16 (.cmp .geq (t 17) (t 19)),
 n 21 13 (.pick (t 16) (t 20) (b false)),
 o 22 (.pick (t 13) (b true) (t 21)),
 o 23 (.call 101 [(t 22), (.const (.string ⟨#[69, 82, 82, 32, 111, 118, 101, 114]⟩))])]
def f102r2 : List SOper := [
 o 24 (.mv (t 0)),
 o 25 (.mv (t 1)),
 o 26 (.ar .add (t 24) (t 25)),
 o 4 (.mv (t 26))]
def f102 : SCode := (.seq (.ops f102r0) (.seq (.ops f102r1) (.seq (.ops f102r2) .ret)))
theorem f102_calls : Sound Tryz.prog 102 27 f102 [.t 4] := sound_of mixed Tryz.func102 rfl (by kernel_rfl) (by kernel_rfl) (by kernel_rfl)

def f103r0 : List SOper := [
 o 10 (.mv (t 2)),
 o 11 (.lens (t 10)),
 o 12 (.cmp .leq (t 11) (i 1048576)),
 o 13 (.mv (t 12)),
 g 14 13 (.mv (t 1)),
 g 15 13 (.lens (t 14)),
 g 16 13 (.cmp .leq (t 15) (i 1048576)),
 o 17 (.pick (t 13) (t 16) (b false)),
 o 18 (.call 101 [(t 17), (.const (.string ⟨#[69, 82, 82, 32, 108, 111, 110, 103]⟩))])]
def f103p1 : List SOper := [
 o 20 (.mv (t 0)),
 o 21 (.nilck (t 20)),
 o 22 (.fa 0 (t 21)),
 o 23 (.ld1 (t 22)),
 o 24 (.mv (t 1)),
 o 25 (.mv (t 0)),
 o 26 (.nilck (t 25)),
 o 27 (.fa 1 (t 26)),
 o 28 (.ld1 (t 27))]
def f103r1 : List SOper := [
 o 29 (.callq 106 [(t 23), (t 24), (t 28)]),
 o 19 (.mv (t 29)),
 o 30 (.ext (t 19) 0),
 o 31 (.ext (t 19) 1),
 o 8 (.new [(.int .i64 0), (.string ⟨#[]⟩), (.slice none 0 0), (.slice none 0 0), (.slice none 0 0), (.bool false), (.int .i64 0)]),
 q (.st 7 (t 8) (t 30)),
 o 9 (.mv (t 31))]
def f103s1 : List SOper := [
 o 8 (.new [(.int .i64 0), (.string ⟨#[]⟩), (.slice none 0 0), (.slice none 0 0), (.slice none 0 0), (.bool false), (.int .i64 0)]),
 o 29 (.callq 106 [(t 23), (t 24), (t 28)]),
 o 19 (.mv (t 29)),
 o 30 (.ext (t 19) 0),
 o 31 (.ext (t 19) 1),
 q (.st 7 (t 8) (t 30)),
 o 9 (.mv (t 31))]
def f103r2 : List SOper := [
 o 32 (.mv (t 0)),
 o 33 (.mv (t 0)),
 o 34 (.nilck (t 33)),
 o 35 (.fa 0 (t 34)),
 o 36 (.ld1 (t 35)),
 o 37 (.mv (t 0)),
 o 38 (.nilck (t 37)),
 o 39 (.fa 1 (t 38)),
 o 40 (.ld1 (t 39)),
 o 41 (.mv (t 1)),
 o 42 (.call 113 [(t 36), (t 40), (t 41)]),
 o 43 (.call 104 [(t 32), (t 42)])]
def f103r3 : List SOper := [
 o 44 (.mv (t 0)),
 o 45 (.mv (t 1)),
 o 46 (.mv (t 2)),
 o 47 (.build [(.int .i64 0), (.string ⟨#[]⟩), (.string ⟨#[]⟩), (.string ⟨#[]⟩), (.int .i64 0)] [(0, 1), (1, 1), (3, 1)] [(i 2), (t 45), (t 46)]),
 o 48 (.bslice [(.int .i64 0), (.string ⟨#[]⟩), (.string ⟨#[]⟩), (.string ⟨#[]⟩), (.int .i64 0)] 1 [(0, 5)] [(t 47)]),
 o 49 (.call 104 [(t 44), (t 48)])]
def f103r4 : List SOper := [
 o 50 (.mv (t 3)),
 o 51 (.mv (t 50)),
 g 52 51 (.mv (t 9)),
 o 53 (.pick (t 51) (t 52) (b false)),
 o 54 (.mv (t 53)),
 g 55 54 (.fa 5 (t 8)),
 g 56 54 (.ld1 (t 55)),
 o 57 (.pick (t 54) (t 56) (b false))]
def f103r5 : List SOper := [
 o 58 (.mv (t 0)),
 o 59 (.mv (t 1)),
 o 60 (.fa 6 (t 8)),
 o 61 (.ld1 (t 60)),
 o 62 (.build [(.int .i64 0), (.string ⟨#[]⟩), (.string ⟨#[]⟩), (.string ⟨#[]⟩), (.int .i64 0)] [(0, 1), (1, 1), (4, 1)] [(i 3), (t 59), (t 61)]),
 o 63 (.bslice [(.int .i64 0), (.string ⟨#[]⟩), (.string ⟨#[]⟩), (.string ⟨#[]⟩), (.int .i64 0)] 1 [(0, 5)] [(t 62)]),
 o 64 (.call 104 [(t 58), (t 63)])]
def f103 : SCode := (.seq (.ops f103r0) (.seq (.two f103p1 f103r1 f103s1) (.seq (.ops f103r2) (.seq (.ops f103r3) (.seq (.ops f103r4) (.cond (t 57) (.ops f103r5) .skip))))))
theorem f103_calls : Sound Tryz.prog 103 65 f103 [] := sound_of mixed Tryz.func103 rfl (by kernel_rfl) (by kernel_rfl) (by kernel_rfl)

def f104r0 : List SOper := [
 o 4 (.mv (t 0)),
 o 5 (.mv (t 0)),
 o 6 (.nilck (t 5)),
 o 7 (.fa 3 (t 6)),
 o 8 (.ld1 (t 7)),
 o 9 (.mv (t 1)),
 o 10 (.app 5 64 [(.int .i64 0), (.string ⟨#[]⟩), (.string ⟨#[]⟩), (.string ⟨#[]⟩), (.int .i64 0)] (t 8) (t 9)),
 o 11 (.nilck (t 4)),
 o 12 (.fa 3 (t 11)),
 q (.st 1 (t 12) (t 10))]
def f104 : SCode := (.ops f104r0)
theorem f104_calls : Sound Tryz.prog 104 13 f104 [] := sound_of mixed Tryz.func104 rfl (by kernel_rfl) (by kernel_rfl) (by kernel_rfl)

def f105r0 : List SOper := [
 o 0 (.new [(.int .i64 0), (.int .i64 0), (.string ⟨#[]⟩), (.slice none 0 0)])]
def f105r1 : List SOper := [
 o 1 (.build [(.int .i64 0), (.int .i64 0), (.string ⟨#[]⟩), (.slice none 0 0)] [(0, 1), (2, 1)] [(i 1), (.const (.string ⟨#[79, 75]⟩))]),
 q (.st 4 (t 0) (t 1))]
def f105 : SCode := (.seq (.ops f105r0) (.seq (.ops f105r1) .ret))
theorem f105_calls : Sound Tryz.prog 105 2 f105 [.cn 0 4] := sound_of mixed Tryz.func105 rfl (by kernel_rfl) (by kernel_rfl) (by kernel_rfl)

def f107r0 : List SOper := [
 o 4 (.mv e),
 o 5 (.mv (b false))]
def f107p1 : List SOper := [
 o 9 (.mv (t 0)),
 o 10 (.nilck (t 9)),
 o 11 (.fa 0 (t 10)),
 o 12 (.ld1 (t 11)),
 o 13 (.mv (t 1)),
 o 14 (.mv (t 0)),
 o 15 (.nilck (t 14)),
 o 16 (.fa 1 (t 15)),
 o 17 (.ld1 (t 16))]
def f107r1 : List SOper := [
 o 18 (.callq 106 [(t 12), (t 13), (t 17)]),
 o 8 (.mv (t 18)),
 o 19 (.ext (t 8) 0),
 o 20 (.ext (t 8) 1),
 o 6 (.new [(.int .i64 0), (.string ⟨#[]⟩), (.slice none 0 0), (.slice none 0 0), (.slice none 0 0), (.bool false), (.int .i64 0)]),
 q (.st 7 (t 6) (t 19)),
 o 7 (.mv (t 20))]
def f107s1 : List SOper := [
 o 6 (.new [(.int .i64 0), (.string ⟨#[]⟩), (.slice none 0 0), (.slice none 0 0), (.slice none 0 0), (.bool false), (.int .i64 0)]),
 o 18 (.callq 106 [(t 12), (t 13), (t 17)]),
 o 8 (.mv (t 18)),
 o 19 (.ext (t 8) 0),
 o 20 (.ext (t 8) 1),
 q (.st 7 (t 6) (t 19)),
 o 7 (.mv (t 20))]
def f107r2 : List SOper := [
 o 21 (.mv (t 7)),
 o 22 (.un .not (t 21)),
 o 23 (.mv (t 22)),
 n 24 23 (.fa 0 (t 6)),
 n 25 23 (.ld1 (t 24)),
 n 26 23 (.cmp .eql (t 25) (i 1)),
 o 27 (.pick (t 23) (b true) (t 26)),
 o 28 (.call 101 [(t 27), (.const (.string ⟨#[87, 82, 79, 78, 71, 84, 89, 80, 69]⟩))])]
def f107r3 : List SOper := [
 o 29 (.fa 1 (t 6)),
 o 30 (.ld1 (t 29)),
 o 31 (.mv (t 7)),
 o 4 (.mv (t 30)),
 o 5 (.mv (t 31))]
def f107 : SCode := (.seq (.ops f107r0) (.seq (.two f107p1 f107r1 f107s1) (.seq (.ops f107r2) (.seq (.ops f107r3) .ret))))
theorem f107_calls : Sound Tryz.prog 107 32 f107 [.t 4, .t 5] := sound_of mixed Tryz.func107 rfl (by kernel_rfl) (by kernel_rfl) (by kernel_rfl)

def f108r0 : List SOper := [
 o 2 (.new [(.int .i64 0), (.int .i64 0), (.string ⟨#[]⟩), (.slice none 0 0)])]
def f108r1 : List SOper := [
 o 3 (.mv (t 0)),
 o 4 (.build [(.int .i64 0), (.int .i64 0), (.string ⟨#[]⟩), (.slice none 0 0)] [(0, 1), (2, 1)] [(i 4), (t 3)]),
 q (.st 4 (t 2) (t 4))]
def f108 : SCode := (.seq (.ops f108r0) (.seq (.ops f108r1) .ret))
theorem f108_calls : Sound Tryz.prog 108 5 f108 [.cn 2 4] := sound_of mixed Tryz.func108 rfl (by kernel_rfl) (by kernel_rfl) (by kernel_rfl)

def f109r0 : List SOper := [
 o 2 (.new [(.int .i64 0), (.int .i64 0), (.string ⟨#[]⟩), (.slice none 0 0)])]
def f109r1 : List SOper := [
 o 3 (.mv (t 0)),
 o 4 (.build [(.int .i64 0), (.int .i64 0), (.string ⟨#[]⟩), (.slice none 0 0)] [(0, 1), (1, 1)] [(i 3), (t 3)]),
 q (.st 4 (t 2) (t 4))]
def f109 : SCode := (.seq (.ops f109r0) (.seq (.ops f109r1) .ret))
theorem f109_calls : Sound Tryz.prog 109 5 f109 [.cn 2 4] := sound_of mixed Tryz.func109 rfl (by kernel_rfl) (by kernel_rfl) (by kernel_rfl)

def f110r0 : List SOper := [
 o 3 (.new [(.int .i64 0), (.int .i64 0), (.string ⟨#[]⟩), (.slice none 0 0)])]
def f110r1 : List SOper := [
 o 4 (.mv (t 0)),
 o 5 (.call 64 [(t 4), (i 1), (i 1)])]
def f110r2 : List SOper := [
 o 6 (.mv (t 0)),
 o 7 (.ld1 (t 1)),
 o 8 (.call 65 [(t 6), (t 7)]),
 q (.st 4 (t 3) (t 8))]
def f110 : SCode := (.seq (.ops f110r0) (.seq (.ops f110r1) (.seq (.ops f110r2) .ret)))
theorem f110_calls : Sound Tryz.prog 110 9 f110 [.cn 3 4] := sound_of mixed Tryz.func110 rfl (by kernel_rfl) (by kernel_rfl) (by kernel_rfl)

def f112r0 : List SOper := [
 o 2 (.new [(.int .i64 0), (.int .i64 0), (.string ⟨#[]⟩), (.slice none 0 0)])]
def f112r1 : List SOper := [
 o 3 (.mv (t 0)),
 o 4 (.build [(.int .i64 0), (.int .i64 0), (.string ⟨#[]⟩), (.slice none 0 0)] [(0, 1), (3, 1)] [(i 5), (t 3)]),
 q (.st 4 (t 2) (t 4))]
def f112 : SCode := (.seq (.ops f112r0) (.seq (.ops f112r1) .ret))
theorem f112_calls : Sound Tryz.prog 112 5 f112 [.cn 2 4] := sound_of mixed Tryz.func112 rfl (by kernel_rfl) (by kernel_rfl) (by kernel_rfl)

end Go.Proofs.YtgmkldaonkbjgaaGreatDoor.C
namespace Go.Proofs.YtgmkldaonkbjgaaGreatDoor
open Go Go.Sx Go.Proofs.YtgmkldaonkbjgaaGreatDoor.C

theorem mv_fin {P : Program} {F : List PanicEntry → Heap → Prop} {x : Operand} {d : Nat} {c : SCode} {Q : Post} {σ : Env} {ds : List Deferred} {h : Heap} {v : Value} (he : ev σ x = some v) (hs : swp P c Q (upd σ (some d) v) ds h) :
    sops P F (fun σ' h' => thenQ (swp P c Q) Q .normal σ' ds h') [⟨some d, none, .mv x⟩] σ h := by
  simp only [sops, sopr, sop, he]
  exact hs

def stopE (why : ByteArray) : List PanicEntry := [{ v := .iface 80 (.agg #[.string why]), recovered := false }]

def Out (R : Value → Heap → Prop) (E : ByteArray → Heap → Prop) : Ending → Heap → Prop
  | .returned v, h => R v h
  | .panicked ch, h => ∃ why, ch = stopE why ∧ E why h
  | .outgrown, _ => False

theorem call_out {P : Program} {f : Nat} {vs : List Value} {h : Heap} {Q : Value → Heap → Prop} {E : ByteArray → Heap → Prop} {K : Value → Heap → Prop} {Qp : List PanicEntry → Heap → Prop} (hc : CallsH P f vs h (Out Q E))
    (hk : ∀ v h', Q v h' → K v h') (he : ∀ why h', E why h' → Qp (stopE why) h') : CallsH P f vs h (after K Qp) :=
  hc.mono fun e h' hr => by
    cases e with
    | returned v => exact hk _ _ hr
    | panicked ch => obtain ⟨why, rfl, hw⟩ := hr; exact he _ _ hw
    | outgrown => exact hr.elim

theorem must_calls {h : Heap} {b : Bool} {s : ByteArray} : CallsH Tryz.prog 101 [.bool b, .string s] h (Out (fun _ h' => b = true ∧ h' = h) (fun why h' => b = false ∧ why = s ∧ h' = h)) := by
  refine f101_calls (by simp) ?_
  cases b with
  | true => exact ⟨rfl, rfl⟩
  | false => exact ⟨s, rfl, rfl, rfl, rfl⟩

structure AS (h0 h : Heap) (ab kb : Nat) (now : Int) (av : Value) (A : List ByteArray) (lv : Value) (L : List Eff) : Prop where
  chg : Chg [] h0 h
  fresh : h0.size ≤ ab
  args : ∀ h', Chg [] h0 h' → SL encS h' av A
  blk : Blk h ab [ptr kb, .int .i64 now, av, lv]
  effs : OL encD 5 h lv L
  own : ∀ b ∈ vblk lv, h0.size ≤ b ∧ b ≠ ab

theorem AS.ext {h0 h h' : Heap} {ab kb : Nat} {now : Int} {av lv : Value} {A : List ByteArray} {L : List Eff} (x : AS h0 h ab kb now av A lv L) (hc : Chg [] h h') : AS h0 h' ab kb now av A lv L :=
  ⟨x.chg.nil hc, x.fresh, x.args, x.blk.chg hc (by simp), x.effs.ext hc, x.own⟩

theorem OL.lt {α : Type} {enc : α → List Value} {size : Nat} {h : Heap} {v : Value} {l : List α} (o : OL enc size h v l) : ∀ b ∈ vblk v, b < h.size := by
  obtain ⟨a, c, rfl, h1⟩ := o
  intro b hb
  cases a with
  | none => simp [vblk, ablk] at hb
  | some a =>
    obtain ⟨b', o', sp⟩ := a
    cases sp with
    | some q => exact h1.elim
    | none =>
      obtain ⟨_, _, rest, hB, _⟩ := h1
      have hb : b ∈ [b'] := hb
      rw [List.mem_singleton.1 hb]
      exact hB.lt

def Aside (h h' : Heap) (ab : Nat) (lv lv' : Value) : Prop := (∀ b ∈ vblk lv', b ∈ vblk lv ∨ h.size ≤ b) ∧ Chg (ab :: vblk lv) h h' ∧ ∀ b l, Blk h b l → b ≠ ab → b ∉ vblk lv → Blk h' b l
theorem Aside.mk {h h' : Heap} {ab : Nat} {lv lv' : Value} (h1 : ∀ b ∈ vblk lv', b ∈ vblk lv ∨ h.size ≤ b) (hc : Chg (ab :: vblk lv) h h') : Aside h h' ab lv lv' := ⟨h1, hc, fun _ _ hb h1 h2 => hb.chg hc (by simp [h1, h2])⟩
theorem Aside.of {h h' : Heap} {ab : Nat} {lv : Value} (hc : Chg [] h h') : Aside h h' ab lv lv := .mk (fun _ hb => .inl hb) (hc.mono (by simp))
theorem Aside.trans {h h1 h2 : Heap} {ab : Nat} {lv lv1 lv2 : Value} (x : Aside h h1 ab lv lv1) (y : Aside h1 h2 ab lv1 lv2) : Aside h h2 ab lv lv2 := by
  obtain ⟨x1, xc, x2⟩ := x
  obtain ⟨y1, yc, y2⟩ := y
  have xs := xc.size
  refine .mk (fun b hb => ?_) (xc.trans yc (fun _ hk => hk) fun k hk hlt => ?_)
  · rcases y1 b hb with h3 | h3
    · exact x1 b h3
    · exact .inr (by omega)
  · rcases List.mem_cons.1 hk with h3 | h3
    · simp [h3]
    · rcases x1 k h3 with h4 | h4
      · simp [h4]
      · omega

theorem Aside.put {h h1 h2 h3 : Heap} {ab b : Nat} {lv lv1 : Value} (x : Aside h h1 ab lv lv1) (c : Chg [] h1 h2) (p : Chg [b] h2 h3) (hb : h.size ≤ b) : Aside h h3 ab lv lv1 := by
  obtain ⟨x1, xc, x2⟩ := x
  exact .mk x1 ((xc.trans c (fun _ hk => hk) (by simp)).trans p (fun _ hk => hk) fun k hk hlt => by simp at hk; omega)

theorem add_calls {h0 h : Heap} {ab kb : Nat} {now : Int} {av lv : Value} {A : List ByteArray} {L M : List Eff} {v : Value} (x : AS h0 h ab kb now av A lv L) (hv : SL encD h v M)
    (hb : ((L.length + M.length) * 2 + 768) * 64 ≤ 281474976710656) :
    CallsH Tryz.prog 104 [ptr ab, v] h (Ret fun _ h' => ∃ lv', AS h0 h' ab kb now av A lv' (L ++ M) ∧ Aside h h' ab lv lv') := by
  have hB := x.blk
  have hO := x.effs
  have hF := x.own
  have hc0 := x.chg
  have hz := x.fresh
  have hzs := hc0.size
  have hlt := hB.lt
  refine f104_calls (by simp) ?_
  refine Exists.intro _ (And.intro (cell_blk hB rfl) ?_)
  obtain ⟨a, n, c, rfl⟩ : ∃ a n c, lv = .slice a n c := let ⟨a, c, e, _⟩ := hO; ⟨a, _, c, e⟩
  obtain ⟨a', c', rfl, hcc⟩ := hv.form
  refine app_own (l := L) (l2 := M) encD_len encD_one rfl hO hv hb fun v' h1 ho hc hbv => ?_
  have hF' : ∀ b ∈ ablk a, h0.size ≤ b ∧ b ≠ ab := hF
  have hB1 : Blk h1 ab [ptr kb, .int .i64 now, av, .slice a n c] := hB.chg hc fun hm => (hF' ab hm).2 rfl
  obtain ⟨a2, n2, c2, rfl⟩ : ∃ a n c, v' = .slice a n c := let ⟨a, c, e, _⟩ := ho; ⟨a, _, c, e⟩
  refine Exists.intro _ (And.intro hB1 (And.intro (by simp) (And.intro rfl (And.intro (ones1 rfl) ?_))))
  intro h2 p2
  have hB2 : Blk h2 ab [ptr kb, .int .i64 now, av, .slice a2 n2 c2] := p2.blk
  have hvb : ∀ b ∈ vblk (.slice a2 n2 c2), h0.size ≤ b ∧ b ≠ ab := fun b hb => by
    rcases hbv b hb with h3 | h3
    · exact hF' b h3
    · exact ⟨by omega, by omega⟩
  have c01 : Chg [] h0 h1 := hc0.fresh hc fun b hb => by have := hF' b hb; omega
  have c02 : Chg [] h0 h2 := c01.fresh p2.chg (by simp; omega)
  refine ⟨.slice a2 n2 c2, ⟨c02, hz, x.args, hB2, ho.chg p2.chg (fun b hb => by simpa using (hvb b hb).2), hvb⟩, .mk hbv (hc.trans p2.chg (fun k hk => List.mem_cons_of_mem _ hk) fun k hk _ => by simp at hk; simp [hk])⟩

theorem many_calls {h0 h : Heap} {ab kb : Nat} {now lo hi : Int} {av lv : Value} {A : List ByteArray} {L : List Eff} (x : AS h0 h ab kb now av A lv L) :
    CallsH Tryz.prog 64 [ptr ab, .int .i64 lo, .int .i64 hi] h (Out (fun _ h' => (lo ≤ A.length ∧ A.length ≤ hi) ∧ h' = h) (fun why h' => ¬ (lo ≤ A.length ∧ A.length ≤ hi) ∧ why = ⟨#[69, 82, 82, 32, 97, 114, 103, 115]⟩ ∧ h' = h)) := by
  have hB := x.blk
  obtain ⟨a, c, rfl, hcc⟩ := (x.args h x.chg).form
  refine f64_calls (by simp) ?_
  refine Exists.intro _ (And.intro (cell_blk hB rfl) ?_)
  refine And.intro rfl (And.intro (fun h1 => ?_) (fun h1 => ?_))
  · refine Exists.intro _ (And.intro (cell_blk hB rfl) ?_)
    refine And.intro rfl (And.intro (fun h2 => ?_) (fun h2 => ?_))
    · refine call_out must_calls ?_ ?_
      · rintro _ h' ⟨_, rfl⟩; exact ⟨⟨by omega, by omega⟩, rfl⟩
      · rintro _ h' ⟨hb, _⟩; cases hb
    · refine call_out must_calls ?_ ?_
      · rintro _ h' ⟨hb, _⟩; cases hb
      · rintro _ h' ⟨_, rfl, rfl⟩; exact ⟨_, rfl, fun h3 => by omega, rfl, rfl⟩
  · refine call_out must_calls ?_ ?_
    · rintro _ h' ⟨hb, _⟩; cases hb
    · rintro _ h' ⟨_, rfl, rfl⟩; exact ⟨_, rfl, fun h3 => by omega, rfl, rfl⟩

end Go.Proofs.YtgmkldaonkbjgaaGreatDoor
namespace Go.Proofs.YtgmkldaonkbjgaaGreatDoor
open Go Go.Sx Go.Proofs.YtgmkldaonkbjgaaGreatDoor.C

def wType : ByteArray := ⟨#[87, 82, 79, 78, 71, 84, 89, 80, 69]⟩
def wLong : ByteArray := ⟨#[69, 82, 82, 32, 108, 111, 110, 103]⟩

theorem th_off {S : List Nat} {h h' : Heap} {t : Thing} {pv lv rv : Value} (x : TH h (cellsT t pv lv rv) t) (hc : Chg S h h') (hn : ∀ b ∈ bl3 pv lv rv, b ∉ S) : TH h' (cellsT t pv lv rv) t := by
  obtain ⟨p, l, r, e, h1, h2, h3⟩ := x
  simp only [cellsT, List.cons.injEq, and_true, true_and] at e
  obtain ⟨rfl, rfl, rfl⟩ := e
  exact ⟨_, _, _, rfl, h1.chg hc (fun b hb => hn b (by simp [bl3, hb])), h2.chg hc (fun b hb => hn b (by simp [bl3, hb])), h3.chg hc (fun b hb => hn b (by simp [bl3, hb]))⟩

theorem TO.lt {h : Heap} {pv lv rv : Value} {t : Thing} (o : TO h pv lv rv t) : ∀ b ∈ bl3 pv lv rv, b < h.size := fun b hb => by
  simp only [bl3, List.mem_append] at hb
  rcases hb with hb | hb | hb
  · exact OL.lt o.p b hb
  · exact OL.lt o.l b hb
  · exact OL.lt o.r b hb

def GetR (h h' : Heap) (go : Option Thing) (r : Value) : Prop := ∃ pv lv rv, r = .tuple #[.agg ⟨cellsT (go.getD zeroT) pv lv rv⟩, .bool go.isSome] ∧ TH h' (cellsT (go.getD zeroT) pv lv rv) (go.getD zeroT) ∧ ∀ b ∈ bl3 pv lv rv, h.size ≤ b ∧ b < h'.size
theorem get_none (h h' : Heap) : GetR h h' none (.tuple #[.agg ⟨zeroV⟩, .bool false]) :=
  ⟨.slice none 0 0, .slice none 0 0, .slice none 0 0, rfl, zero_TH, fun b hb => by simp [bl3, vblk, ablk] at hb⟩

theorem KGetF_calls {h : Heap} {kb sb mb c : Nat} {m : List KI} {S : Space} (key : ByteArray) (now : Int) (x : KR h kb sb mb c m) (hs : Sorted m S) :
    CallsH Tryz.prog 106 [ptr kb, .string key, .int .i64 now] h (Ret fun r h' => GetR h h' (getS S key now) r ∧ Chg [] h h') := by
  obtain ⟨go, hgo⟩ : ∃ go, go = getS S key now := ⟨_, rfl⟩
  rw [← hgo]
  refine f106_calls (by simp) ?_
  intro b6 h1 g1
  have c1 := g1.chg
  have i6 := g1.id
  have z1 := g1.size
  have B6 : Blk h1 b6 zeroV := g1.blk
  refine call_ret (LookK_calls key (x.ext c1)) ?_
  rintro _ h2 ⟨hlook, c2⟩
  have z2 := c2.size
  rcases hlook with ⟨i, hi, hik, pv, lv, rv, rfl, o2, fr⟩ | ⟨hno, rfl⟩
  · have hfs : findS S key = some i.thing := by rw [← hik]; exact find_mem hs hi
    intro b8 h3 g3
    refine Exists.intro zeroV (And.intro g3.blk (And.intro (by decide) (And.intro rfl (And.intro (thing_one o2.th) ?_))))
    intro h4 p4
    have g4 := g3.put p4
    have B8 : Blk h4 b8 (cellsT i.thing pv lv rv) := p4.blk
    have o4 := o2.ext g4.chg
    have c14 : Chg [] h1 h4 := c2.nil g4.chg
    refine Exists.intro _ (And.intro rfl (And.intro (cells_blk B8) ?_))
    refine call_ret (gone_calls o4.th now) ?_
    rintro _ h5 ⟨rfl, c5⟩
    have c15 := c14.nil c5
    have o5 := o4.ext c5
    have B65 := B6.chg c15 (by simp)
    have B85 := B8.chg c5 (by simp)
    cases hg : (i.thing.hasU && decide (i.thing.unt ≤ now)) with
    | true =>
      have e : go = none := by rw [hgo]; unfold getS; rw [hfs]; simp only; rw [if_pos (show goneT i.thing now = true from hg)]
      subst e
      refine Exists.intro zeroV (And.intro B65 (And.intro (by decide) (And.intro rfl (And.intro (thing_one (zero_TH (h := h5))) ?_))))
      intro h6 p6
      have B66 : Blk h6 b6 zeroV := p6.blk
      refine Exists.intro zeroV (And.intro rfl (And.intro (cells_blk B66) ?_))
      exact And.intro (get_none _ _) ((c1.nil c15).fresh p6.chg (by simp; omega))
    | false =>
      have e : go = some i.thing := by rw [hgo]; unfold getS; rw [hfs]; simp only; rw [if_neg (by unfold goneT; rw [hg]; simp)]
      subst e
      refine Exists.intro _ (And.intro rfl (And.intro (cells_blk B85) ?_))
      refine Exists.intro zeroV (And.intro B65 (And.intro (by decide) (And.intro rfl (And.intro (thing_one o5.th) ?_))))
      intro h6 p6
      have B66 : Blk h6 b6 (cellsT i.thing pv lv rv) := p6.blk
      have o6 := o5.chg p6.chg (fun b hb => by have := fr b hb; simp; omega)
      refine Exists.intro _ (And.intro rfl (And.intro (cells_blk B66) ?_))
      exact And.intro ⟨pv, lv, rv, rfl, o6.th, fun b hb => ⟨by have := fr b hb; omega, o6.lt b hb⟩⟩ ((c1.nil c15).fresh p6.chg (by simp; omega))
  · have e : go = none := by rw [hgo]; unfold getS; rw [find_out hs hno]
    subst e
    intro b8 h3 g3
    refine Exists.intro zeroV (And.intro g3.blk (And.intro (by decide) (And.intro rfl (And.intro (thing_one (zero_TH (h := h3))) ?_))))
    intro h4 p4
    have g4 := g3.put p4
    have c14 : Chg [] h1 h4 := c2.nil g4.chg
    have B64 := B6.chg c14 (by simp)
    refine Exists.intro zeroV (And.intro B64 (And.intro (by decide) (And.intro rfl (And.intro (thing_one (zero_TH (h := h4))) ?_))))
    intro h6 p6
    have B66 : Blk h6 b6 zeroV := p6.blk
    refine Exists.intro zeroV (And.intro rfl (And.intro (cells_blk B66) ?_))
    exact And.intro (get_none _ _) ((c1.nil c14).fresh p6.chg (by simp; omega))

theorem text_calls {h0 h : Heap} {ab kb sb mb c : Nat} {now : Int} {av lv : Value} {A : List ByteArray} {L : List Eff} {m : List KI} {S : Space} (key : ByteArray) (x : AS h0 h ab kb now av A lv L) (kr0 : KR h0 kb sb mb c m) (hs : Sorted m S) :
    CallsH Tryz.prog 107 [ptr ab, .string key] h (Out (fun r h' => (∀ t, getS S key now = some t → t.kind = 1) ∧ r = .tuple #[.string ((getS S key now).getD zeroT).text, .bool (getS S key now).isSome] ∧ Chg [] h h')
      (fun why h' => (∃ t, getS S key now = some t ∧ t.kind ≠ 1) ∧ why = wType ∧ Chg [] h h')) := by
  have hB := x.blk
  have kr := kr0.ext x.chg
  obtain ⟨go, hgo⟩ : ∃ go, go = getS S key now := ⟨_, rfl⟩
  have get : ∀ {h1}, Chg [] h h1 → CallsH Tryz.prog 106 [ptr kb, .string key, .int .i64 now] h1 (Ret fun r h' => GetR h1 h' go r ∧ Chg [] h1 h') := fun hc => by
    rw [hgo]; exact KGetF_calls key now (kr.ext hc) hs
  rw [← hgo]
  have rest : ∀ {h2 : Heap} {b6 : Nat} {us : List Value}, Chg [] h h2 → Blk h2 b6 us → TH h2 us (go.getD zeroT) →
      swp Tryz.prog (.seq (.ops f107r2) (.seq (.ops f107r3) .ret)) (retQ [.t 4, .t 5] (Out (fun r h' => (∀ t, go = some t → t.kind = 1) ∧ r = .tuple #[.string (go.getD zeroT).text, .bool go.isSome] ∧ Chg [] h h')
      (fun why h' => (∃ t, go = some t ∧ t.kind ≠ 1) ∧ why = wType ∧ Chg [] h h'))) (mk [(6, ptr b6), (7, .bool go.isSome)]) [] h2 := by
    intro h2 b6 us hc B tu
    obtain ⟨pv, lv, rv, rfl, _⟩ := tu
    clear hgo get
    cases go with
    | none =>
      refine call_out must_calls ?_ ?_
      · rintro _ h3 ⟨_, rfl⟩
        refine Exists.intro _ (And.intro (cell_blk B rfl) ?_)
        exact ⟨fun t ht => (by cases ht), rfl, hc⟩
      · rintro _ h3 ⟨hb, _⟩; cases hb
    | some t =>
      refine Exists.intro _ (And.intro (cell_blk B rfl) ?_)
      refine And.intro rfl (And.intro (fun h1 => ?_) (fun h1 => ?_))
      · refine call_out must_calls ?_ ?_
        · rintro _ h3 ⟨_, rfl⟩
          refine Exists.intro _ (And.intro (cell_blk B rfl) ?_)
          exact ⟨fun t' ht => (by cases ht; exact h1), rfl, hc⟩
        · rintro _ h3 ⟨hb, _⟩; cases hb
      · refine call_out must_calls ?_ ?_
        · rintro _ h3 ⟨hb, _⟩; cases hb
        · rintro _ h3 ⟨_, rfl, rfl⟩
          exact ⟨_, rfl, ⟨t, rfl, h1⟩, rfl, hc⟩
  refine f107_calls (by simp) ?_
  refine Exists.intro _ (And.intro (cell_blk hB rfl) (Exists.intro _ (And.intro (cell_blk hB rfl) ?_)))
  refine And.intro ?_ ?_
  · refine callq_ret (get (Chg.refl h)) ?_
    rintro _ h1 ⟨⟨pv, lw, rv, rfl, tu, fr⟩, c1⟩
    refine And.intro c1.ext ?_
    intro b6 h2 g2
    refine Exists.intro _ (And.intro g2.blk (And.intro (by decide) (And.intro tu.len (And.intro (thing_one tu) ?_))))
    intro h3 p3
    have g3 := g2.put p3
    have B3 : Blk h3 b6 (cellsT (go.getD zeroT) pv lw rv) := by
      have h9 : Blk h3 b6 (splice zeroV 0 (cellsT (go.getD zeroT) pv lw rv)) := p3.blk
      rw [seven rfl tu.len] at h9
      exact h9
    exact cut_at [(6, ptr b6), (7, .bool go.isSome)] ⟨rfl, rfl, trivial⟩ (rest (c1.nil g3.chg) B3 (tu.ext g3.chg))
  · intro b6 h1 g1
    refine callq_ret (get g1.chg) ?_
    rintro _ h2 ⟨⟨pv, lw, rv, rfl, tu, fr⟩, c2⟩
    refine And.intro c2.ext ?_
    have B2 : Blk h2 b6 zeroV := (show Blk h1 b6 zeroV from g1.blk).chg c2 (by simp)
    refine Exists.intro _ (And.intro B2 (And.intro (by decide) (And.intro tu.len (And.intro (thing_one tu) ?_))))
    intro h3 p3
    have B3 : Blk h3 b6 (cellsT (go.getD zeroT) pv lw rv) := by
      have h9 : Blk h3 b6 (splice zeroV 0 (cellsT (go.getD zeroT) pv lw rv)) := p3.blk
      rw [seven rfl tu.len] at h9
      exact h9
    have i1 := g1.id
    have c3 : Chg [] h h3 := (g1.chg.nil c2).fresh p3.chg (by simp; omega)
    have z1 := g1.size
    have t3 := th_off tu p3.chg (fun b hb => by have := fr b hb; simp; omega)
    exact cut_at [(6, ptr b6), (7, .bool go.isSome)] ⟨rfl, rfl, trivial⟩ (rest c3 B3 t3)

end Go.Proofs.YtgmkldaonkbjgaaGreatDoor
namespace Go.Proofs
open Go.RowKit Go.Shelf

def Tryz.laysC174_ren : Go.Shelf.Ren := ⟨fun | 174 => 152 | 247 => 175 | 245 => 176 | 287 => 198 | 279 => 199 | 280 => 200 | 281 => 201 | 282 => 202 | 321 => 212 | 322 => 213 | 316 => 214 | 171 => 216 | 205 => 215 | 243 => 220 | 246 => 79 | 283 => 133 | 284 => 134 | 285 => 135 | 286 => 136 | 129 => 168 | 317 => 167 | 318 => 169 | 319 => 170 | 320 => 171 | 337 => 186 | 338 => 187 | n => n, fun | 9 => 9 | 3 => 3 | 2 => 2 | 75 => 183 | 85 => 184 | 4 => 4 | 167 => 222 | 5 => 5 | 53 => 167 | 175 => 223 | 46 => 204 | 168 => 225 | 37 => 123 | 0 => 0 | 210 => 238 | 21 => 21 | 127 => 245 | 145 => 248 | 143 => 246 | 171 => 166 | 173 => 170 | 212 => 200 | 51 => 201 | 20 => 20 | 213 => 202 | 232 => 228 | 233 => 229 | 80 => 249 | n => n, fun | 15 => 4 | 16 => 5 | 17 => 1 | 18 => 2 | 19 => 3 | n => n⟩
theorem Tryz.laysC174 : Go.Proofs.LaysC.n174 Tryz.prog Tryz.laysC174_ren := {
  mixed := by kernel_rfl
  f129 := Tryz.func168.trans (congrArg some (by kernel_rfl))
  f171 := Tryz.func216.trans (congrArg some (by kernel_rfl))
  f174 := Tryz.func152.trans (congrArg some (by kernel_rfl))
  f205 := Tryz.func215.trans (congrArg some (by kernel_rfl))
  f243 := Tryz.func220.trans (congrArg some (by kernel_rfl))
  f245 := Tryz.func176.trans (congrArg some (by kernel_rfl))
  f246 := Tryz.func79.trans (congrArg some (by kernel_rfl))
  f247 := Tryz.func175.trans (congrArg some (by kernel_rfl))
  f279 := Tryz.func199.trans (congrArg some (by kernel_rfl))
  f280 := Tryz.func200.trans (congrArg some (by kernel_rfl))
  f281 := Tryz.func201.trans (congrArg some (by kernel_rfl))
  f282 := Tryz.func202.trans (congrArg some (by kernel_rfl))
  f283 := Tryz.func133.trans (congrArg some (by kernel_rfl))
  f284 := Tryz.func134.trans (congrArg some (by kernel_rfl))
  f285 := Tryz.func135.trans (congrArg some (by kernel_rfl))
  f286 := Tryz.func136.trans (congrArg some (by kernel_rfl))
  f287 := Tryz.func198.trans (congrArg some (by kernel_rfl))
  f316 := Tryz.func214.trans (congrArg some (by kernel_rfl))
  f317 := Tryz.func167.trans (congrArg some (by kernel_rfl))
  f318 := Tryz.func169.trans (congrArg some (by kernel_rfl))
  f319 := Tryz.func170.trans (congrArg some (by kernel_rfl))
  f320 := Tryz.func171.trans (congrArg some (by kernel_rfl))
  f321 := Tryz.func212.trans (congrArg some (by kernel_rfl))
  f322 := Tryz.func213.trans (congrArg some (by kernel_rfl))
  f337 := Tryz.func186.trans (congrArg some (by kernel_rfl))
  f338 := Tryz.func187.trans (congrArg some (by kernel_rfl))
  t0 := Tryz.underlying0
  a0 := Tryz.isAgg0
  z0 := Tryz.sizeOf0
  v0 := Tryz.zeroValue0
  t2 := Tryz.underlying2
  a2 := Tryz.isAgg2
  z2 := Tryz.sizeOf2
  v2 := Tryz.zeroValue2
  t3 := Tryz.underlying3
  a3 := Tryz.isAgg3
  z3 := Tryz.sizeOf3
  v3 := Tryz.zeroValue3
  t4 := Tryz.underlying4
  a4 := Tryz.isAgg4
  z4 := Tryz.sizeOf4
  v4 := Tryz.zeroValue4
  t5 := Tryz.underlying5
  a5 := Tryz.isAgg5
  z5 := Tryz.sizeOf5
  v5 := Tryz.zeroValue5
  t9 := Tryz.underlying9
  a9 := Tryz.isAgg9
  z9 := Tryz.sizeOf9
  v9 := Tryz.zeroValue9
  t20 := Tryz.underlying20
  a20 := Tryz.isAgg20
  z20 := Tryz.sizeOf20
  v20 := Tryz.zeroValue20
  t21 := Tryz.underlying21
  a21 := Tryz.isAgg21
  z21 := Tryz.sizeOf21
  v21 := Tryz.zeroValue21
  t37 := Tryz.underlying123
  a37 := Tryz.isAgg123
  z37 := Tryz.sizeOf123
  v37 := Tryz.zeroValue123
  t46 := Tryz.underlying204
  a46 := Tryz.isAgg204
  z46 := Tryz.sizeOf204
  v46 := Tryz.zeroValue204
  t51 := Tryz.underlying201
  a51 := Tryz.isAgg201
  z51 := Tryz.sizeOf201
  v51 := Tryz.zeroValue201
  t53 := Tryz.underlying167
  a53 := Tryz.isAgg167
  z53 := Tryz.sizeOf167
  v53 := Tryz.zeroValue167
  t75 := Tryz.underlying183
  a75 := Tryz.isAgg183
  z75 := Tryz.sizeOf183
  v75 := Tryz.zeroValue183
  t85 := Tryz.underlying184
  a85 := Tryz.isAgg184
  z85 := Tryz.sizeOf184
  v85 := Tryz.zeroValue184
  t127 := Tryz.underlying245
  a127 := Tryz.isAgg245
  z127 := Tryz.sizeOf245
  v127 := Tryz.zeroValue245
  t143 := Tryz.underlying246
  a143 := Tryz.isAgg246
  z143 := Tryz.sizeOf246
  v143 := Tryz.zeroValue246
  t145 := Tryz.underlying248
  a145 := Tryz.isAgg248
  z145 := Tryz.sizeOf248
  v145 := Tryz.zeroValue248
  t167 := Tryz.underlying222
  a167 := Tryz.isAgg222
  z167 := Tryz.sizeOf222
  v167 := Tryz.zeroValue222
  t168 := Tryz.underlying225
  a168 := Tryz.isAgg225
  z168 := Tryz.sizeOf225
  v168 := Tryz.zeroValue225
  t171 := Tryz.underlying166
  a171 := Tryz.isAgg166
  z171 := Tryz.sizeOf166
  v171 := Tryz.zeroValue166
  t173 := Tryz.underlying170
  a173 := Tryz.isAgg170
  z173 := Tryz.sizeOf170
  v173 := Tryz.zeroValue170
  t175 := Tryz.underlying223
  a175 := Tryz.isAgg223
  z175 := Tryz.sizeOf223
  v175 := Tryz.zeroValue223
  t210 := Tryz.underlying238
  a210 := Tryz.isAgg238
  z210 := Tryz.sizeOf238
  v210 := Tryz.zeroValue238
  t212 := Tryz.underlying200
  a212 := Tryz.isAgg200
  z212 := Tryz.sizeOf200
  v212 := Tryz.zeroValue200
  t213 := Tryz.underlying202
  a213 := Tryz.isAgg202
  z213 := Tryz.sizeOf202
  t232 := Tryz.underlying228
  a232 := Tryz.isAgg228
  z232 := Tryz.sizeOf228
  v232 := Tryz.zeroValue228
  t233 := Tryz.underlying229
  a233 := Tryz.isAgg229
  z233 := Tryz.sizeOf229
  v233 := Tryz.zeroValue229
  g15 := by kernel_rfl
  g16 := by kernel_rfl
  g17 := by kernel_rfl
  g18 := by kernel_rfl
  g19 := by kernel_rfl
  t80 := Tryz.underlying249
  a80 := Tryz.isAgg249
  z80 := Tryz.sizeOf249
  v80 := Tryz.zeroValue249
  i0 := by kernel_rfl
  i2 := by kernel_rfl
  i3 := by kernel_rfl
  i4 := by kernel_rfl
  i5 := by kernel_rfl
  i9 := by kernel_rfl
  i20 := by kernel_rfl
  i21 := by kernel_rfl
  i37 := by kernel_rfl
  i46 := by kernel_rfl
  i51 := by kernel_rfl
  i53 := by kernel_rfl
  i75 := by kernel_rfl
  i80 := by kernel_rfl
  i85 := by kernel_rfl
  i127 := by kernel_rfl
  i143 := by kernel_rfl
  i145 := by kernel_rfl
  i167 := by kernel_rfl
  i168 := by kernel_rfl
  i171 := by kernel_rfl
  i173 := by kernel_rfl
  i175 := by kernel_rfl
  i210 := by kernel_rfl
  i212 := by kernel_rfl
  i232 := by kernel_rfl
  i233 := by kernel_rfl
  m15 := by kernel_rfl
  m16 := by kernel_rfl
  m17 := by kernel_rfl
  m18 := by kernel_rfl
  m19 := by kernel_rfl
  c0 := by kernel_rfl
  c2 := by kernel_rfl
  c3 := by kernel_rfl
  c4 := by kernel_rfl
  c5 := by kernel_rfl
  c9 := by kernel_rfl
  c20 := by kernel_rfl
  c21 := by kernel_rfl
  c37 := by kernel_rfl
  c46 := by kernel_rfl
  c51 := by kernel_rfl
  c53 := by kernel_rfl
  c75 := by kernel_rfl
  c80 := by kernel_rfl
  c85 := by kernel_rfl
  c127 := by kernel_rfl
  c143 := by kernel_rfl
  c145 := by kernel_rfl
  c167 := by kernel_rfl
  c168 := by kernel_rfl
  c171 := by kernel_rfl
  c173 := by kernel_rfl
  c175 := by kernel_rfl
  c210 := by kernel_rfl
  c212 := by kernel_rfl
  c213 := by kernel_rfl
  c232 := by kernel_rfl
  c233 := by kernel_rfl }

def Tryz.laysM173_ren : Go.Shelf.Ren := ⟨fun | 173 => 30 | 246 => 79 | 283 => 133 | 284 => 134 | 285 => 135 | 286 => 136 | 129 => 168 | 317 => 167 | 318 => 169 | 319 => 170 | 320 => 171 | 337 => 186 | 338 => 187 | n => n, fun | 2 => 2 | 3 => 3 | 9 => 9 | 4 => 4 | 171 => 166 | 0 => 0 | 53 => 167 | 37 => 123 | 5 => 5 | 173 => 170 | 212 => 200 | 51 => 201 | 20 => 20 | 213 => 202 | 46 => 204 | 232 => 228 | 233 => 229 | n => n, fun | 17 => 1 | 18 => 2 | 19 => 3 | n => n⟩
theorem Tryz.laysM173 : Go.Proofs.LaysM.n173 Tryz.prog Tryz.laysM173_ren := {
  mixed := by kernel_rfl
  f129 := Tryz.func168.trans (congrArg some (by kernel_rfl))
  f173 := Tryz.func30.trans (congrArg some (by kernel_rfl))
  f246 := Tryz.func79.trans (congrArg some (by kernel_rfl))
  f283 := Tryz.func133.trans (congrArg some (by kernel_rfl))
  f284 := Tryz.func134.trans (congrArg some (by kernel_rfl))
  f285 := Tryz.func135.trans (congrArg some (by kernel_rfl))
  f286 := Tryz.func136.trans (congrArg some (by kernel_rfl))
  f317 := Tryz.func167.trans (congrArg some (by kernel_rfl))
  f318 := Tryz.func169.trans (congrArg some (by kernel_rfl))
  f319 := Tryz.func170.trans (congrArg some (by kernel_rfl))
  f320 := Tryz.func171.trans (congrArg some (by kernel_rfl))
  f337 := Tryz.func186.trans (congrArg some (by kernel_rfl))
  f338 := Tryz.func187.trans (congrArg some (by kernel_rfl))
  t0 := Tryz.underlying0
  a0 := Tryz.isAgg0
  z0 := Tryz.sizeOf0
  v0 := Tryz.zeroValue0
  t2 := Tryz.underlying2
  a2 := Tryz.isAgg2
  z2 := Tryz.sizeOf2
  v2 := Tryz.zeroValue2
  t3 := Tryz.underlying3
  a3 := Tryz.isAgg3
  z3 := Tryz.sizeOf3
  v3 := Tryz.zeroValue3
  t4 := Tryz.underlying4
  a4 := Tryz.isAgg4
  z4 := Tryz.sizeOf4
  v4 := Tryz.zeroValue4
  t5 := Tryz.underlying5
  a5 := Tryz.isAgg5
  z5 := Tryz.sizeOf5
  v5 := Tryz.zeroValue5
  t9 := Tryz.underlying9
  a9 := Tryz.isAgg9
  z9 := Tryz.sizeOf9
  v9 := Tryz.zeroValue9
  t20 := Tryz.underlying20
  a20 := Tryz.isAgg20
  z20 := Tryz.sizeOf20
  v20 := Tryz.zeroValue20
  t37 := Tryz.underlying123
  a37 := Tryz.isAgg123
  z37 := Tryz.sizeOf123
  v37 := Tryz.zeroValue123
  t46 := Tryz.underlying204
  a46 := Tryz.isAgg204
  z46 := Tryz.sizeOf204
  v46 := Tryz.zeroValue204
  t51 := Tryz.underlying201
  a51 := Tryz.isAgg201
  z51 := Tryz.sizeOf201
  v51 := Tryz.zeroValue201
  t53 := Tryz.underlying167
  a53 := Tryz.isAgg167
  z53 := Tryz.sizeOf167
  v53 := Tryz.zeroValue167
  t171 := Tryz.underlying166
  a171 := Tryz.isAgg166
  z171 := Tryz.sizeOf166
  v171 := Tryz.zeroValue166
  t173 := Tryz.underlying170
  a173 := Tryz.isAgg170
  z173 := Tryz.sizeOf170
  v173 := Tryz.zeroValue170
  t212 := Tryz.underlying200
  a212 := Tryz.isAgg200
  z212 := Tryz.sizeOf200
  v212 := Tryz.zeroValue200
  t213 := Tryz.underlying202
  a213 := Tryz.isAgg202
  z213 := Tryz.sizeOf202
  t232 := Tryz.underlying228
  a232 := Tryz.isAgg228
  z232 := Tryz.sizeOf228
  v232 := Tryz.zeroValue228
  t233 := Tryz.underlying229
  a233 := Tryz.isAgg229
  z233 := Tryz.sizeOf229
  v233 := Tryz.zeroValue229
  g17 := by kernel_rfl
  g18 := by kernel_rfl
  g19 := by kernel_rfl
  i0 := by kernel_rfl
  i2 := by kernel_rfl
  i3 := by kernel_rfl
  i4 := by kernel_rfl
  i5 := by kernel_rfl
  i9 := by kernel_rfl
  i20 := by kernel_rfl
  i37 := by kernel_rfl
  i46 := by kernel_rfl
  i51 := by kernel_rfl
  i53 := by kernel_rfl
  i171 := by kernel_rfl
  i173 := by kernel_rfl
  i212 := by kernel_rfl
  i232 := by kernel_rfl
  i233 := by kernel_rfl
  m17 := by kernel_rfl
  m18 := by kernel_rfl
  m19 := by kernel_rfl }

end Go.Proofs
namespace Go.Num
open Go Go.Lib

def isDig (c : UInt8) : Prop := 48 ≤ c.toNat ∧ c.toNat ≤ 57
def allDig (d : List UInt8) : Prop := ∀ c ∈ d, isDig c
@[irreducible] def nxt (m : Nat) (c : UInt8) : Nat := m * 10 + (c.toNat - 48)
theorem nxt_eq (m : Nat) (c : UInt8) : nxt m c = m * 10 + (c.toNat - 48) := by unfold nxt; rfl
def valF (m : Nat) : List UInt8 → Nat
  | [] => m
  | c :: r => valF (nxt m c) r
abbrev val (d : List UInt8) : Nat := valF 0 d
theorem valF_nil (m : Nat) : valF m [] = m := rfl
theorem valF_cons (m : Nat) (c : UInt8) (r : List UInt8) : valF m (c :: r) = valF (nxt m c) r := rfl

def num (l : List UInt8) : Option Int :=
  match parseIntB 64 l with
  | .ok v => if itoa v = l then some v else none
  | _ => none

theorem valF_ge (m : Nat) : ∀ d : List UInt8, m ≤ valF m d
  | [] => Nat.le_refl _
  | c :: r => Nat.le_trans (by rw [nxt_eq]; omega) (valF_ge (nxt m c) r)
theorem valF_snoc (c : UInt8) : ∀ (m : Nat) (d : List UInt8), valF m (d ++ [c]) = valF m d * 10 + (c.toNat - 48)
  | m, [] => nxt_eq m c
  | m, x :: r => valF_snoc c (nxt m x) r

theorem parseM_ok : ∀ (d : List UInt8) (m : Nat), allDig d → valF m d ≤ 18446744073709551615 → parseUintM 18446744073709551615 m d = .ok (valF m d)
  | [], m, _, _ => by rw [valF_nil]; unfold parseUintM; rfl
  | c :: r, m, hd, hv => by
    have h1 : isDig c := hd c (by simp)
    have hge := valF_ge (nxt m c) r
    have hn := nxt_eq m c
    rw [valF_cons] at hv ⊢
    unfold parseUintM
    rw [if_pos (show 48 ≤ c.toNat ∧ c.toNat ≤ 57 from h1), if_neg (by omega), if_neg (by omega), ← hn]
    exact parseM_ok r _ (fun x hx => hd x (by simp [hx])) hv

def dgt (x : Nat) : UInt8 := UInt8.ofNat (48 + x)
theorem byte_dig {x : Nat} (h : x < 10) : isDig (dgt x) ∧ (dgt x).toNat = 48 + x := by
  unfold dgt
  have : (UInt8.ofNat (48 + x)).toNat = 48 + x := by rw [UInt8.toNat_ofNat']; omega
  exact ⟨⟨by omega, by omega⟩, this⟩

theorem dec_spec : ∀ (n u : Nat), u < n → allDig (decDigits u) ∧ decDigits u ≠ [] ∧ val (decDigits u) = u ∧ ((decDigits u).length = 1 ∨ (decDigits u).head? ≠ some 48) ∧ (u ≠ 0 → (decDigits u).head? ≠ some 48)
  | 0, u, h => absurd h (by omega)
  | n + 1, u, h => by
    by_cases h10 : u < 10
    · obtain ⟨h1, h2⟩ := byte_dig h10
      have e : decDigits u = [dgt u] := by rw [decDigits, dif_pos h10]; rfl
      rw [e]
      refine ⟨by intro c hc; simp at hc; subst hc; exact h1, by simp, ?_, .inl rfl, fun h0 => ?_⟩
      · show valF 0 [dgt u] = u
        rw [valF_cons, valF_nil, nxt_eq, h2]; omega
      · simp only [List.head?_cons, ne_eq, Option.some.injEq]
        intro e; have := congrArg UInt8.toNat e; rw [h2] at this; simp at this; omega
    · obtain ⟨i1, i2, i3, i4, i5⟩ := dec_spec n (u / 10) (by omega)
      obtain ⟨h1, h2⟩ := byte_dig (x := u % 10) (by omega)
      have e : decDigits u = decDigits (u / 10) ++ [dgt (u % 10)] := by rw [decDigits, dif_neg h10]; rfl
      have hh : (decDigits u).head? ≠ some 48 := by
        obtain ⟨x, r, hx⟩ := List.exists_cons_of_ne_nil i2
        have := i5 (by omega)
        rw [e, hx]; rw [hx] at this; simpa using this
      refine ⟨?_, by rw [e]; simp, ?_, .inr hh, fun _ => hh⟩
      · rw [e]; intro c hc
        rcases List.mem_append.1 hc with hc | hc
        · exact i1 c hc
        · simp at hc; subst hc; exact h1
      · rw [e]
        have := valF_snoc (dgt (u % 10)) 0 (decDigits (u / 10))
        rw [h2] at this
        have i3' : valF 0 (decDigits (u / 10)) = u / 10 := i3
        rw [i3'] at this
        show valF 0 _ = u
        rw [this]; omega
theorem dec_len : ∀ (k u : Nat), u < 10 ^ (k + 1) → (decDigits u).length ≤ k + 1
  | 0, u, h => by rw [decDigits, dif_pos (by simpa using h)]; simp
  | k + 1, u, h => by
    rw [decDigits]
    split
    · simp
    · have := dec_len k (u / 10) (by rw [Nat.pow_succ] at h; omega)
      simp; omega

theorem parse_range {T : Nat} (hT : T = 9223372036854775808) {l : List UInt8} {v : Int} (hx : parseIntB 64 l = .ok v) : -(T : Int) ≤ v ∧ v < T := by
  unfold parseIntB at hx
  split at hx
  · cases hx
  · rename_i c r
    simp only at hx
    split at hx
    · cases hx
    · cases hx
    · rename_i u hu
      have e : 2 ^ (64 - 1) = T := by rw [hT]
      rw [e] at hx
      split at hx
      · cases hx
      · rename_i h1
        split at hx
        · cases hx
        · rename_i h2
          simp at hx; subst hx
          split <;> rename_i hneg
          · have : u ≤ T := by
              rcases Nat.lt_or_ge T u with h | h
              · exact absurd ⟨hneg, h⟩ h2
              · exact h
            omega
          · have : u < T := by
              rcases Nat.lt_or_ge u T with h | h
              · exact h
              · exact absurd ⟨hneg, h⟩ h1
            omega

theorem num_iff {T : Nat} (hT : T = 9223372036854775808) (l : List UInt8) (v : Int) : num l = some v ↔ (-(T : Int) ≤ v ∧ v < T) ∧ itoa v = l := by
  unfold num
  constructor
  · intro h
    split at h
    · rename_i x hx
      split at h
      · rename_i hi
        simp at h; subst h
        refine ⟨?_, hi⟩
        unfold parseIntB at hx
        split at hx
        · cases hx
        · rename_i c r
          simp only at hx
          split at hx
          · cases hx
          · cases hx
          · rename_i u hu
            have e : 2 ^ (64 - 1) = T := by rw [hT]
            rw [e] at hx
            split at hx
            · cases hx
            · rename_i h1
              split at hx
              · cases hx
              · rename_i h2
                simp at hx; subst hx
                split <;> rename_i hneg
                · have : u ≤ T := by
                    rcases Nat.lt_or_ge T u with h | h
                    · exact absurd ⟨hneg, h⟩ h2
                    · exact h
                  omega
                · have : u < T := by
                    rcases Nat.lt_or_ge u T with h | h
                    · exact h
                    · exact absurd ⟨hneg, h⟩ h1
                  omega
      · cases h
    · cases h
  · rintro ⟨⟨h0, h1⟩, rfl⟩
    have key : parseIntB 64 (itoa v) = .ok v := by
      have e : 2 ^ (64 - 1) = T := by rw [hT]
      have eM : 2 ^ 64 - 1 = 18446744073709551615 := by decide
      unfold itoa
      split
      · rename_i hneg
        obtain ⟨i1, i2, i3, i4, i5⟩ := dec_spec (v.natAbs + 1) v.natAbs (by omega)
        have i3' : valF 0 (decDigits v.natAbs) = v.natAbs := i3
        have c45 : (45 : UInt8).toNat = 45 := rfl
        have hp : parseUintB 64 (decDigits v.natAbs) = .ok v.natAbs := by
          unfold parseUintB
          rw [if_neg i2, eM, parseM_ok _ 0 i1 (by rw [i3']; omega), i3']
        unfold parseIntB
        simp only [c45, if_true, or_true, hp, e]
        rw [if_neg (by simp), if_neg (by omega)]
        congr 1; omega
      · rename_i hneg
        obtain ⟨i1, i2, i3, i4, i5⟩ := dec_spec (v.toNat + 1) v.toNat (by omega)
        have i3' : valF 0 (decDigits v.toNat) = v.toNat := i3
        obtain ⟨x, r, hx⟩ := List.exists_cons_of_ne_nil i2
        have hxd : isDig x := i1 x (by rw [hx]; simp)
        have hx1 : 48 ≤ x.toNat := hxd.1
        have hp : parseUintB 64 (x :: r) = .ok v.toNat := by
          rw [← hx]
          unfold parseUintB
          rw [if_neg i2, eM, parseM_ok _ 0 i1 (by rw [i3']; omega), i3']
        rw [hx]
        have n1 : ¬ x.toNat = 45 := by omega
        have n2 : ¬ (x.toNat = 43 ∨ x.toNat = 45) := by omega
        show (match parseUintB 64 (if x.toNat = 43 ∨ x.toNat = 45 then r else x :: r) with
          | NumEnd.syntax => NumEnd.syntax
          | .range => .range
          | .ok u => if ¬ x.toNat = 45 ∧ 2 ^ (64 - 1) ≤ u then .range else if x.toNat = 45 ∧ 2 ^ (64 - 1) < u then .range else .ok (if x.toNat = 45 then -(u : Int) else u)) = _
        rw [if_neg n2, hp]
        simp only [e]
        rw [if_neg (by omega), if_neg (by omega), if_neg n1]
        congr 1; omega
    rw [key]
    simp

end Go.Num
namespace Go.Proofs.YtgmkldaonkbjgaaGreatDoor
open Go Go.Sx Go.Proofs.YtgmkldaonkbjgaaGreatDoor.C

def IfaceV (v : Value) : Prop := v = .nilIface ∨ ∃ te pe, v = .iface te pe
def LaidN (h : Heap) : Prop := (∃ t fr, h[1]? = some (.cells (Lib.pow10Tab.map fun z => Value.int .u64 z).toArray t fr)) ∧ (∃ v, cell h 4 0 = some v ∧ IfaceV v) ∧ (∃ v, cell h 5 0 = some v ∧ IfaceV v)

theorem LaidN.ext {h h' : Heap} (hl : LaidN h) (hc : Chg [] h h') : LaidN h' := by
  obtain ⟨⟨t, fr, h1⟩, ⟨v, h2, h3⟩, ⟨u, h4, h5⟩⟩ := hl
  exact ⟨⟨t, fr, get_ext hc.ext h1⟩, ⟨v, cell_chg h2 hc (by simp), h3⟩, ⟨u, cell_chg h4 hc (by simp), h5⟩⟩

theorem chg_of_below {w w' : World} {h : Heap} (hw : w.heap = h) (hb : RowKit.Below w.heap.size w w') : Chg [] h w'.heap := by
  subst hw
  exact ⟨hb.size, fun k hk _ => hb.block k hk⟩

theorem wcell {w : World} {h : Heap} {b : Nat} {v : Value} (hw : w.heap = h) (hc : cell h b 0 = some v) : w.cell? ⟨b, 0, none⟩ = some v := by
  subst hw
  unfold cell at hc
  unfold World.cell?
  split at hc
  · rename_i c t k hx
    rw [hx]; simpa using hc
  · cases hc

def ParseP (l : List UInt8) (r : Value) : Prop :=
  (∃ v, Lib.parseIntB 64 l = .ok v ∧ r = .tuple #[.int .i64 v, .nilIface]) ∨ ((∀ v, Lib.parseIntB 64 l ≠ .ok v) ∧ ∃ n t p, r = .tuple #[.int .i64 n, .iface t p])

theorem parse_calls {h : Heap} {l : List UInt8} (hl : LaidN h) (hs : l.length < 281474976710656) : CallsH Tryz.prog 152 [.string ⟨⟨l⟩⟩, .int .i64 10, .int .i64 64] h (Ret fun r h' => ParseP l r ∧ Chg [] h h') := by
  refine ⟨by kernel_rfl, fun w hw => ?_⟩
  obtain ⟨_, ⟨v1, c1, i1⟩, ⟨v2, c2, i2⟩⟩ := hl
  have hsz : (⟨⟨l⟩⟩ : ByteArray).size = l.length := rfl
  rcases hp : Lib.parseIntB 64 l with v | _ | _
  · refine (Go.Proofs.Any.strconv_ParseInt_10_at64_ok Go.Proofs.Tryz.laysC174 ⟨⟨l⟩⟩ (by omega) v hp w).mono ?_
    rintro e w' ⟨rfl, hW⟩
    have hb : RowKit.Below w.heap.size w w' := by
      rcases hW with rfl | ⟨t, rfl⟩
      · exact RowKit.Below.refl _ _
      · exact Lib.bytesWorld_below _ _ _
    exact ⟨⟨.inl ⟨v, hp, rfl⟩, chg_of_below hw hb⟩, by simp, hb.os, hb.output, hb.tape⟩
  · refine (Go.Proofs.Any.strconv_ParseInt_10_at64_syntax Go.Proofs.Tryz.laysC174 ⟨⟨l⟩⟩ (by omega) hp v1 w (wcell hw c1) i1).mono ?_
    rintro e w' ⟨N, rfl, _, _, hb⟩
    exact ⟨⟨.inr ⟨fun v hv => (by rw [hp] at hv; cases hv), _, _, _, rfl⟩, chg_of_below hw hb⟩, by simp, hb.os, hb.output, hb.tape⟩
  · refine (Go.Proofs.Any.strconv_ParseInt_10_at64_range Go.Proofs.Tryz.laysC174 ⟨⟨l⟩⟩ (by omega) hp v2 w (wcell hw c2) i2).mono ?_
    rintro e w' ⟨N, rfl, _, _, hb⟩
    exact ⟨⟨.inr ⟨fun v hv => (by rw [hp] at hv; cases hv), _, _, _, rfl⟩, chg_of_below hw hb⟩, by simp, hb.os, hb.output, hb.tape⟩

theorem tab_of {w : World} {h : Heap} (hw : w.heap = h) (hl : LaidN h) : Lib.TabIs Tryz.prog w "internal/strconv.uint64pow10" .u64 Lib.pow10Tab := by
  obtain ⟨⟨t, fr, h1⟩, _⟩ := hl
  have hg : Tryz.prog.globalNamed "internal/strconv.uint64pow10" = some 1 := by kernel_rfl
  unfold Lib.TabIs World.var?
  rw [hg]
  show (match w.heap[1]? with | some (.cells cs _ _) => some cs | _ => none) = _
  rw [hw, h1]

theorem format_calls {h : Heap} {n : Int} (hl : LaidN h) (h0 : -9223372036854775808 ≤ n) (h1 : n ≤ 9223372036854775807) : CallsH Tryz.prog 30 [.int .i64 n, .int .i64 10] h (Ret fun r h' => r = .string ⟨⟨Lib.itoa n⟩⟩ ∧ Chg [] h h') := by
  refine ⟨by kernel_rfl, fun w hw => ?_⟩
  refine (Go.Proofs.Any.strconv_FormatInt_10 Go.Proofs.Tryz.laysM173 n h0 h1 w (tab_of hw hl)).mono ?_
  rintro e w' ⟨rfl, k, os, rfl⟩
  refine ⟨⟨rfl, ?_⟩, by simp, rfl, rfl, rfl⟩
  subst hw
  refine ⟨by simp [Go.Sort.grow, World.drewN], fun j hj _ => ?_⟩
  simp [Go.Sort.grow, World.drewN, Array.getElem?_append, hj]

theorem bnum_calls {h : Heap} {l : List UInt8} (hl : LaidN h) (hs : l.length < 281474976710656) :
    CallsH Tryz.prog 111 [.string ⟨⟨l⟩⟩] h (Ret fun r h' => r = .tuple #[.int .i64 ((Num.num l).getD 0), .bool (Num.num l).isSome] ∧ Chg [] h h') := by
  refine f111_calls (by simp) ?_
  refine call_ret (parse_calls hl hs) ?_
  rintro r h1 ⟨hp, c1⟩
  rcases hp with ⟨v, hv, rfl⟩ | ⟨hno, n, t, p, rfl⟩
  · obtain ⟨r0, r1⟩ := Num.parse_range rfl hv
    refine call_ret (format_calls (hl.ext c1) (by omega) (by omega)) ?_
    rintro _ h2 ⟨rfl, c2⟩
    have c := c1.nil c2
    refine And.intro (fun hne => ?_) (fun heq => ?_)
    · have e : Num.num l = none := by
        unfold Num.num
        rw [hv]
        simp only
        rw [if_neg]
        intro e; exact hne (by rw [e])
      rw [e]
      exact And.intro rfl c
    · have e : Num.num l = some v := by
        unfold Num.num
        rw [hv]
        simp only
        rw [if_pos]
        have := Classical.not_not.1 heq
        injection this with this
        injection this
      rw [e]
      exact And.intro rfl c
  · have e : Num.num l = none := by
      unfold Num.num
      split
      · rename_i v hv; exact absurd hv (hno v)
      · rfl
    rw [e]
    exact And.intro rfl c1

end Go.Proofs.YtgmkldaonkbjgaaGreatDoor
namespace Go.Proofs.YtgmkldaonkbjgaaGreatDoor
open Go Go.Sx Go.Proofs.YtgmkldaonkbjgaaGreatDoor.C

def wNum : ByteArray := ⟨#[69, 82, 82, 32, 110, 117, 109, 98, 101, 114]⟩
def wOver : ByteArray := ⟨#[69, 82, 82, 32, 111, 118, 101, 114]⟩

def textE (key s : ByteArray) : Eff := ⟨2, key, noText, s, 0⟩
def untilE (key : ByteArray) (n : Int) : Eff := ⟨3, key, noText, noText, n⟩

def keepE (go : Option Thing) (key : ByteArray) (stays : Bool) : List Eff := match go with
  | some t => if stays = true ∧ t.hasU = true then [untilE key t.unt] else []
  | none => []
def putE (S : Space) (key s : ByteArray) (now : Int) (stays : Bool) : List Eff := dropsS S key now ++ ([textE key s] ++ keepE (getS S key now) key stays)

theorem drops_len (S : Space) (key : ByteArray) (now : Int) : (dropsS S key now).length ≤ 1 := by
  unfold dropsS; split <;> simp

theorem one_sl {h : Heap} {b : Nat} {e : Eff} (hB : Blk h b (encD e)) : SL encD h (.slice (some ⟨b, 0, none⟩) 1 1) [e] := by
  refine ⟨_, 1, rfl, Nat.le_refl _, ?_⟩
  have := cells_blk hB
  simpa [Src] using this

theorem put_rest {h0 h : Heap} {ab kb sb mb c : Nat} {now : Int} {av lv : Value} {A : List ByteArray} {L : List Eff} {m : List KI} {S : Space} (key s : ByteArray) (stays : Bool) (go : Option Thing) (x : AS h0 h ab kb now av A lv L)
    (kr0 : KR h0 kb sb mb c m) (hs : Sorted m S) (hL : L.length ≤ 1000000) (ok : s.size ≤ 1048576 ∧ key.size ≤ 1048576) :
    ∀ {h2 : Heap} {b8 : Nat} {pv lw rv : Value}, Chg [] h h2 → h.size ≤ b8 → Blk h2 b8 (cellsT (go.getD zeroT) pv lw rv) →
      swp Tryz.prog (.seq (.ops f103r2) (.seq (.ops f103r3) (.seq (.ops f103r4) (.cond (.tmp 57) (.ops f103r5) .skip)))) (retQ [] (Out (fun _ h' => (s.size ≤ 1048576 ∧ key.size ≤ 1048576) ∧ ∃ lv', AS h0 h' ab kb now av A lv' (L ++ (dropsS S key now ++ ([textE key s] ++ keepE go key stays))) ∧ Aside h h' ab lv lv')
      (fun why h' => ¬ (s.size ≤ 1048576 ∧ key.size ≤ 1048576) ∧ why = wLong ∧ h' = h))) (mk [(0, ptr ab), (1, .string key), (2, .string s), (3, .bool stays), (8, ptr b8), (9, .bool go.isSome)]) [] h2 := by
  have hB := x.blk
  have dl := drops_len S key now
  intro h2 b8 pv lw rv hc hb8 B8
  have x2 := x.ext hc
  have hB2 := x2.blk
  have hab := hB.lt
  have n81 : b8 ≠ ab := by omega
  have n82 : b8 ∉ vblk lv := fun hm => by have := OL.lt x.effs b8 hm; omega
  refine Exists.intro _ (And.intro (cell_blk hB2 rfl) (Exists.intro _ (And.intro (cell_blk hB2 rfl) ?_)))
  refine call_ret (BDrops_calls key now (kr0.ext x2.chg) hs) ?_
  rintro rd h3 ⟨od, hbd, c3⟩
  have x3 := x2.ext c3
  refine call_ret (add_calls x3 od.sl (by omega)) ?_
  rintro _ h4 ⟨lv4, x4, a4⟩
  have l8 := (B8.chg c3 (by simp)).lt
  have B84 := a4.2.2 b8 _ (B8.chg c3 (by simp)) n81 n82
  have n84 : b8 ∉ vblk lv4 := fun hm => by
    rcases a4.1 b8 hm with h5 | h5
    · exact n82 h5
    · omega
  have a04 : Aside h h4 ab lv lv4 := (Aside.of (hc.nil c3)).trans a4
  intro b9 h5 g5
  have x5 := x4.ext g5.chg
  refine call_ret (add_calls x5 (one_sl (e := textE key s) g5.blk) (by simp; omega)) ?_
  rintro _ h6 ⟨lv6, x6, a6⟩
  have B86 := a6.2.2 b8 _ (B84.chg g5.chg (by simp)) n81 n84
  have a06 : Aside h h6 ab lv lv6 := a04.trans ((Aside.of g5.chg).trans a6)
  have e6 : L ++ dropsS S key now ++ [textE key s] = L ++ (dropsS S key now ++ [textE key s]) := List.append_assoc _ _ _
  cases stays with
  | false =>
    refine ⟨ok, lv6, ?_, a06⟩
    have : keepE go key false = [] := by unfold keepE; split <;> simp
    rw [this, List.append_nil, ← e6]
    exact x6
  | true =>
    cases go with
    | none =>
      refine ⟨ok, lv6, ?_, a06⟩
      rw [show keepE none key true = [] from rfl, List.append_nil, ← e6]
      exact x6
    | some t =>
      obtain ⟨kd, tx, ps, ls, rs, hu, un⟩ := t
      refine Exists.intro _ (And.intro (cell_blk B86 rfl) ?_)
      cases hu with
      | false =>
        refine ⟨ok, lv6, ?_, a06⟩
        rw [show keepE (some ⟨kd, tx, ps, ls, rs, false, un⟩) key true = [] by unfold keepE; simp, List.append_nil, ← e6]
        exact x6
      | true =>
        refine Exists.intro _ (And.intro (cell_blk B86 rfl) ?_)
        intro b10 h7 g7
        have x7 := x6.ext g7.chg
        refine call_ret (add_calls x7 (one_sl (e := untilE key un) g7.blk) (by simp; omega)) ?_
        rintro _ h8 ⟨lv8, x8, a8⟩
        refine ⟨ok, lv8, ?_, a06.trans ((Aside.of g7.chg).trans a8)⟩
        rw [show keepE (some ⟨kd, tx, ps, ls, rs, true, un⟩) key true = [untilE key un] by unfold keepE; simp, ← List.append_assoc (dropsS S key now), ← List.append_assoc L, ← e6]
        exact x8

theorem put_calls {h0 h : Heap} {ab kb sb mb c : Nat} {now : Int} {av lv : Value} {A : List ByteArray} {L : List Eff} {m : List KI} {S : Space} (key s : ByteArray) (stays : Bool) (x : AS h0 h ab kb now av A lv L)
    (kr0 : KR h0 kb sb mb c m) (hs : Sorted m S) (hL : L.length ≤ 1000000) (hk : key.size < 4611686018427387904) (hz : s.size < 4611686018427387904) :
    CallsH Tryz.prog 103 [ptr ab, .string key, .string s, .bool stays] h (Out (fun _ h' => (s.size ≤ 1048576 ∧ key.size ≤ 1048576) ∧ ∃ lv', AS h0 h' ab kb now av A lv' (L ++ putE S key s now stays) ∧ Aside h h' ab lv lv')
      (fun why h' => ¬ (s.size ≤ 1048576 ∧ key.size ≤ 1048576) ∧ why = wLong ∧ h' = h)) := by
  have hB := x.blk
  obtain ⟨go, hgo⟩ : ∃ go, go = getS S key now := ⟨_, rfl⟩
  have get : ∀ {h1}, Chg [] h h1 → CallsH Tryz.prog 106 [ptr kb, .string key, .int .i64 now] h1 (Ret fun r h' => GetR h1 h' go r ∧ Chg [] h1 h') := fun hc => by
    rw [hgo]; exact KGetF_calls key now (kr0.ext (x.chg.nil hc)) hs
  unfold putE
  rw [← hgo]
  clear hgo
  refine f103_calls (by simp) ?_
  refine And.intro rfl (And.intro (fun h1 => ?_) (fun h1 => ?_))
  rotate_left
  · refine call_out must_calls ?_ ?_
    · rintro _ h' ⟨hb, _⟩; cases hb
    · rintro _ h' ⟨_, rfl, rfl⟩
      exact ⟨_, rfl, fun h3 => by omega, rfl, rfl⟩
  refine And.intro rfl (And.intro (fun h2 => ?_) (fun h2 => ?_))
  rotate_left
  · refine call_out must_calls ?_ ?_
    · rintro _ h' ⟨hb, _⟩; cases hb
    · rintro _ h' ⟨_, rfl, rfl⟩
      exact ⟨_, rfl, fun h3 => by omega, rfl, rfl⟩
  refine call_out must_calls ?_ ?_
  rotate_left
  · rintro _ h' ⟨hb, _⟩; cases hb
  rintro _ h' ⟨_, e⟩
  have e := e.symm
  subst e
  have ok : s.size ≤ 1048576 ∧ key.size ≤ 1048576 := ⟨by omega, by omega⟩
  refine Exists.intro _ (And.intro (cell_blk hB rfl) (Exists.intro _ (And.intro (cell_blk hB rfl) ?_)))
  refine And.intro ?_ ?_
  · refine callq_ret (get (Chg.refl h)) ?_
    rintro _ h1 ⟨⟨pv, lw, rv, rfl, tu, fr⟩, c1⟩
    refine And.intro c1.ext ?_
    intro b6 h2 g2
    refine Exists.intro _ (And.intro g2.blk (And.intro (by decide) (And.intro tu.len (And.intro (thing_one tu) ?_))))
    intro h3 p3
    have g3 := g2.put p3
    have B3 : Blk h3 b6 (cellsT (go.getD zeroT) pv lw rv) := by
      have h9 : Blk h3 b6 (splice zeroV 0 (cellsT (go.getD zeroT) pv lw rv)) := p3.blk
      rw [seven rfl tu.len] at h9
      exact h9
    refine mv_fin (v := .bool go.isSome) ?_ ?_
    · exact rfl
    exact cut_at [(0, ptr ab), (1, .string key), (2, .string s), (3, .bool stays), (8, ptr b6), (9, .bool go.isSome)] ⟨rfl, rfl, rfl, rfl, rfl, rfl, trivial⟩ (put_rest key s stays go x kr0 hs hL ok (c1.nil g3.chg) (by have := g3.id; have := c1.size; omega) B3)
  · intro b6 h1 g1
    refine callq_ret (get g1.chg) ?_
    rintro _ h2 ⟨⟨pv, lw, rv, rfl, tu, fr⟩, c2⟩
    refine And.intro c2.ext ?_
    have B2 : Blk h2 b6 zeroV := (show Blk h1 b6 zeroV from g1.blk).chg c2 (by simp)
    refine Exists.intro _ (And.intro B2 (And.intro (by decide) (And.intro tu.len (And.intro (thing_one tu) ?_))))
    intro h3 p3
    have B3 : Blk h3 b6 (cellsT (go.getD zeroT) pv lw rv) := by
      have h9 : Blk h3 b6 (splice zeroV 0 (cellsT (go.getD zeroT) pv lw rv)) := p3.blk
      rw [seven rfl tu.len] at h9
      exact h9
    have i1 := g1.id
    have c3 : Chg [] h h3 := (g1.chg.nil c2).fresh p3.chg (by simp; omega)
    refine mv_fin (v := .bool go.isSome) ?_ ?_
    · exact rfl
    exact cut_at [(0, ptr ab), (1, .string key), (2, .string s), (3, .bool stays), (8, ptr b6), (9, .bool go.isSome)] ⟨rfl, rfl, rfl, rfl, rfl, rfl, trivial⟩ (put_rest key s stays go x kr0 hs hL ok c3 (by omega) B3)


end Go.Proofs.YtgmkldaonkbjgaaGreatDoor
namespace Go.Proofs.YtgmkldaonkbjgaaGreatDoor
open Go Go.Sx Go.Proofs.YtgmkldaonkbjgaaGreatDoor.C

def repV (k i : Int) (s : ByteArray) : Value := .agg ⟨[.int .i64 k, .int .i64 i, .string s, .slice none 0 0]⟩

theorem repV_ones (k i : Int) (s : ByteArray) : ∀ u ∈ (repV k i s).cells.toList, u.oneCell' = true := by
  intro u hu
  have hu : u ∈ [Value.int .i64 k, .int .i64 i, .string s, .slice none 0 0] := hu
  simp at hu
  rcases hu with rfl | rfl | rfl | rfl <;> rfl

theorem Bok_calls {h : Heap} : CallsH Tryz.prog 105 [] h (Ret fun r h' => r = repV 1 0 ⟨#[79, 75]⟩ ∧ Chg [] h h') := by
  refine f105_calls (by simp) ?_
  intro b h1 g1
  refine Exists.intro _ (And.intro g1.blk (And.intro (by decide) (And.intro rfl (And.intro (repV_ones 1 0 _) ?_))))
  intro h2 p2
  have g2 := g1.put p2
  exact ⟨_, rfl, cells_blk g2.blk, rfl, g2.chg⟩
theorem Bnumber_calls {h : Heap} {n : Int} : CallsH Tryz.prog 109 [.int .i64 n] h (Ret fun r h' => r = repV 3 n noText ∧ Chg [] h h') := by
  refine f109_calls (by simp) ?_
  intro b h1 g1
  refine Exists.intro _ (And.intro g1.blk (And.intro (by decide) (And.intro rfl (And.intro (repV_ones 3 n noText) ?_))))
  intro h2 p2
  have g2 := g1.put p2
  exact ⟨_, rfl, cells_blk g2.blk, rfl, g2.chg⟩
theorem Btext_calls {h : Heap} {s : ByteArray} : CallsH Tryz.prog 108 [.string s] h (Ret fun r h' => r = repV 4 0 s ∧ Chg [] h h') := by
  refine f108_calls (by simp) ?_
  intro b h1 g1
  refine Exists.intro _ (And.intro g1.blk (And.intro (by decide) (And.intro rfl (And.intro (repV_ones 4 0 s) ?_))))
  intro h2 p2
  have g2 := g1.put p2
  exact ⟨_, rfl, cells_blk g2.blk, rfl, g2.chg⟩

def okSum (a b : Int) : Prop := -9223372036854775808 ≤ a + b ∧ a + b ≤ 9223372036854775807
def In64 (a : Int) : Prop := -9223372036854775808 ≤ a ∧ a ≤ 9223372036854775807

theorem plus_calls {h : Heap} {a b : Int} (ha : In64 a) (hb : In64 b) : CallsH Tryz.prog 102 [.int .i64 a, .int .i64 b] h (Out (fun r h' => okSum a b ∧ r = .int .i64 (a + b) ∧ h' = h) (fun why h' => ¬ okSum a b ∧ why = wOver ∧ h' = h)) := by
  obtain ⟨a0, a1⟩ := ha
  obtain ⟨b0, b1⟩ := hb
  unfold okSum
  have good : okSum a b → swp Tryz.prog (.seq (.ops f102r2) .ret) (retQ [.t 4] (Out (fun r h' => okSum a b ∧ r = .int .i64 (a + b) ∧ h' = h) (fun why h' => ¬ okSum a b ∧ why = wOver ∧ h' = h))) (mk [(0, .int .i64 a), (1, .int .i64 b)]) [] h := by
    intro hk
    obtain ⟨k0, k1⟩ := id hk
    refine And.intro rfl (fun z hz => ?_)
    have hz : z = a + b := hz.trans (wrap_in (by omega) (by omega))
    subst hz
    exact ⟨hk, rfl, rfl⟩
  refine f102_calls (by simp) ?_
  refine And.intro rfl (And.intro (fun h1 => ?_) (fun h1 => ?_))
  · refine And.intro rfl (fun z hz => ?_)
    have hz : z = 9223372036854775807 - b := hz.trans (wrap_in (by omega) (by omega))
    subst hz
    refine And.intro rfl (And.intro (fun h2 => ?_) (fun h2 => ?_))
    · refine call_out must_calls ?_ ?_
      · rintro _ h' ⟨_, rfl⟩
        exact cut_at [(0, .int .i64 a), (1, .int .i64 b)] ⟨rfl, rfl, trivial⟩ (good ⟨by omega, by omega⟩)
      · rintro _ h' ⟨hb, _⟩; cases hb
    · refine And.intro rfl (And.intro (fun h3 => absurd h3 (by omega)) (fun h3 => ?_))
      refine call_out must_calls ?_ ?_
      · rintro _ h' ⟨hb, _⟩; cases hb
      · rintro _ h' ⟨_, rfl, rfl⟩
        exact ⟨_, rfl, fun hk => by have := hk.2; omega, rfl, rfl⟩
  · refine And.intro rfl (And.intro (fun h3 => ?_) (fun h3 => absurd (show b < 0 by omega) h3))
    refine And.intro rfl (fun z hz => ?_)
    have hz : z = -9223372036854775808 - b := hz.trans (wrap_in (by omega) (by omega))
    subst hz
    refine And.intro rfl (And.intro (fun h2 => ?_) (fun h2 => ?_))
    · refine call_out must_calls ?_ ?_
      · rintro _ h' ⟨_, rfl⟩
        exact cut_at [(0, .int .i64 a), (1, .int .i64 b)] ⟨rfl, rfl, trivial⟩ (good ⟨by omega, by omega⟩)
      · rintro _ h' ⟨hb, _⟩; cases hb
    · refine call_out must_calls ?_ ?_
      · rintro _ h' ⟨hb, _⟩; cases hb
      · rintro _ h' ⟨_, rfl, rfl⟩
        exact ⟨_, rfl, fun hk => by have := hk.1; omega, rfl, rfl⟩

def numOf (s : ByteArray) : Option Int := Num.num s.data.toList

theorem numA_calls {h0 h : Heap} {ab kb : Nat} {now : Int} {av lv : Value} {A : List ByteArray} {L : List Eff} {i : Nat} (x : AS h0 h ab kb now av A lv L) (hl : LaidN h0) (hi : i < A.length) (hz : A[i].size < 281474976710656) :
    CallsH Tryz.prog 66 [ptr ab, .int .i64 i] h (Out (fun r h' => ∃ n, numOf A[i] = some n ∧ r = .int .i64 n ∧ Chg [] h h') (fun why h' => numOf A[i] = none ∧ why = wNum ∧ Chg [] h h')) := by
  have hB := x.blk
  have hs := x.args h x.chg
  obtain ⟨a, c, rfl, hcc⟩ := hs.form
  obtain ⟨b, o, rfl⟩ := hs.addr (by omega)
  have hcs := hs.cells encS_len (i := i) (x := A[i]) (by simp [hi])
  obtain ⟨⟨⟨l⟩⟩, hl2⟩ : ∃ s, s = A[i] := ⟨_, rfl⟩
  rw [← hl2] at hcs hz ⊢
  rw [show numOf ⟨⟨l⟩⟩ = Num.num l from rfl]
  obtain ⟨w, hw⟩ : ∃ w, w = Num.num l := ⟨_, rfl⟩
  rw [← hw]
  refine f66_calls (by simp) ?_
  refine Exists.intro _ (And.intro (cell_blk hB rfl) ?_)
  refine And.intro (by omega) (And.intro (by omega) (Exists.intro _ (And.intro (hcs 0 _ rfl) ?_)))
  refine call_ret (bnum_calls (hl.ext x.chg) hz) ?_
  rintro _ h1 ⟨rfl, c1⟩
  rw [← hw]
  cases w with
  | none =>
    refine call_out must_calls ?_ ?_
    · rintro _ h' ⟨hb, _⟩; cases hb
    · rintro _ h' ⟨_, rfl, rfl⟩
      exact ⟨_, rfl, rfl, rfl, c1⟩
  | some n =>
    refine call_out must_calls ?_ ?_
    · rintro _ h' ⟨_, rfl⟩
      exact ⟨n, rfl, rfl, c1⟩
    · rintro _ h' ⟨hb, _⟩; cases hb

end Go.Proofs.YtgmkldaonkbjgaaGreatDoor
namespace Go.Sx
open Go

inductive En : Type 1 where
  | b (k : Nat) (l : List Value)
  | w (k : Nat) (l : List Value)
  | m (k : Nat) (es : List MapEntry) (c : Nat)
  | o {α : Type} (enc : α → List Value) (size : Nat) (v : Value) (l : List α)
  | x (f : List Nat) (p : Heap → Prop) (st : ∀ S h h', Chg S h h' → (∀ b ∈ f, b ∉ S) → p h → p h') (lt : ∀ h, p h → ∀ b ∈ f, b < h.size)

def En.fp : En → List Nat
  | .b k _ => [k]
  | .w k _ => [k]
  | .m k _ _ => [k]
  | .o _ _ v _ => vblk v
  | .x f _ _ _ => f

def En.at (h : Heap) : En → Prop
  | .b k l => Blk h k l
  | .w k l => BlkW h k l
  | .m k es c => MapB h k es c
  | .o enc size v l => OL enc size h v l
  | .x _ p _ _ => p h

theorem BlkW.chg' {S : List Nat} {h h' : Heap} {b : Nat} {l : List Value} (hb : BlkW h b l) (hc : Chg S h h') (hn : b ∉ S) : BlkW h' b l := let ⟨e, k, x, y⟩ := hb; ⟨e, k, get_chg x hc hn, y⟩
theorem BlkW.lt' {h : Heap} {b : Nat} {l : List Value} (hb : BlkW h b l) : b < h.size := let ⟨_, _, x, _⟩ := hb; get_lt x

theorem En.chg {S : List Nat} {h h' : Heap} : ∀ {e : En}, e.at h → Chg S h h' → (∀ b ∈ e.fp, b ∉ S) → e.at h'
  | .b _ _, he, hc, hn => Blk.chg he hc (hn _ (List.mem_singleton.2 rfl))
  | .w _ _, he, hc, hn => BlkW.chg' he hc (hn _ (List.mem_singleton.2 rfl))
  | .m _ _ _, he, hc, hn => MapB.chg he hc (hn _ (List.mem_singleton.2 rfl))
  | .o _ _ _ _, he, hc, hn => OL.chg he hc hn
  | .x _ _ st _, he, hc, hn => st _ _ _ hc hn he

theorem En.lt {h : Heap} : ∀ {e : En}, e.at h → ∀ q ∈ e.fp, q < h.size
  | .b _ _, he, q, hq => by rw [List.mem_singleton.1 hq]; exact Blk.lt he
  | .w _ _, he, q, hq => by rw [List.mem_singleton.1 hq]; exact BlkW.lt' he
  | .m _ _ _, he, q, hq => by rw [List.mem_singleton.1 hq]; exact MapB.lt he
  | .o _ _ _ _, he, q, hq => OL.lt he q hq
  | .x _ _ _ lt, he, q, hq => lt _ he q hq

structure St (T : List Nat) (h0 h : Heap) (L : List En) : Prop where
  chg : Chg T h0 h
  ents : ∀ (i : Nat) (e : En), L[i]? = some e → e.at h ∧ ∀ b ∈ e.fp, b ∈ T ∨ h0.size ≤ b
  apart : ∀ (i j : Nat) (e f : En), L[i]? = some e → L[j]? = some f → i ≠ j → ∀ b ∈ e.fp, b ∉ f.fp

variable {T : List Nat} {h0 h h' : Heap} {L : List En} {e e' : En}

theorem St.start (h : Heap) : St [] h h [] := ⟨Chg.refl h, fun i e hi => by simp at hi, fun i j e f hi => by simp at hi⟩
theorem St.get (w : St T h0 h L) (i : Nat) (hi : L[i]? = some e) : e.at h := (w.ents i e hi).1
theorem St.size (w : St T h0 h L) : h0.size ≤ h.size := w.chg.size

theorem St.ext (w : St T h0 h L) (hc : Chg [] h h') : St T h0 h' L :=
  ⟨w.chg.trans hc (fun _ hk => hk) (by simp), fun i e hi => ⟨En.chg (w.ents i e hi).1 hc (by simp), (w.ents i e hi).2⟩, w.apart⟩

theorem St.add (w : St T h0 h L) (hc : Chg [] h h') (he : e.at h') (hf : ∀ b ∈ e.fp, h.size ≤ b) : St T h0 h' (e :: L) := by
  have w' := w.ext hc
  have hz := w.size
  refine ⟨w'.chg, fun i e' hi => ?_, fun i j e1 e2 hi hj hn b h1 h2 => ?_⟩
  · cases i with
    | zero => cases hi; exact ⟨he, fun b hb => .inr (by have := hf b hb; omega)⟩
    | succ i => exact w'.ents i e' hi
  · cases i with
    | zero =>
      cases hi
      cases j with
      | zero => exact hn rfl
      | succ j =>
        have := En.lt (w.get j hj) b h2
        have := hf b h1
        omega
    | succ i =>
      cases j with
      | zero =>
        cases hj
        have := En.lt (w.get i hi) b h1
        have := hf b h2
        omega
      | succ j => exact w.apart i j e1 e2 hi hj (by omega) b h1 h2

theorem St.new (w : St T h0 h L) {b : Nat} {z : List Value} (g : Grow h h' b z) : St T h0 h' (.b b z :: L) :=
  w.add g.chg (show Blk h' b z from g.blk) fun k hk => by rw [List.mem_singleton.1 hk, g.id]; exact Nat.le_refl _
theorem St.newm (w : St T h0 h L) {b : Nat} {es : List MapEntry} {c : Nat} (g : GrowO h h' b (.map ⟨es⟩ c)) : St T h0 h' (.m b es c :: L) :=
  w.add g.chg (show MapB h' b es c from g.blk) fun k hk => by rw [List.mem_singleton.1 hk, g.id]; exact Nat.le_refl _

theorem St.set (w : St T h0 h L) {S : List Nat} (i : Nat) (hi : L[i]? = some e) (hc : Chg S h h') (hS : ∀ b ∈ S, b ∈ e.fp ∨ h.size ≤ b) (he : e'.at h') (hf : ∀ b ∈ e'.fp, b ∈ e.fp ∨ h.size ≤ b) : St T h0 h' (L.set i e') := by
  have hz := w.size
  have hil : i < L.length := (List.getElem?_eq_some_iff.1 hi).1
  refine ⟨w.chg.trans hc (fun _ hk => hk) (fun k hk hlt => ?_), fun j f hj => ?_, fun j k f g hj hk hn b h1 h2 => ?_⟩
  · rcases hS k hk with h1 | h1
    · rcases (w.ents i e hi).2 k h1 with h2 | h2
      · exact h2
      · omega
    · omega
  · by_cases hij : i = j
    · subst hij
      rw [List.getElem?_set_self hil] at hj
      cases hj
      refine ⟨he, fun b hb => ?_⟩
      rcases hf b hb with h1 | h1
      · exact (w.ents i e hi).2 b h1
      · exact .inr (by omega)
    · rw [List.getElem?_set_ne hij] at hj
      refine ⟨En.chg (w.get j hj) hc fun b hb hbS => ?_, (w.ents j f hj).2⟩
      rcases hS b hbS with h1 | h1
      · exact w.apart i j e f hi hj hij b h1 hb
      · have := En.lt (w.get j hj) b hb; omega
  · by_cases hij : i = j
    · subst hij
      rw [List.getElem?_set_self hil] at hj
      rw [List.getElem?_set_ne hn] at hk
      cases hj
      rcases hf b h1 with h3 | h3
      · exact w.apart i k e g hi hk hn b h3 h2
      · have := En.lt (w.get k hk) b h2; omega
    · rw [List.getElem?_set_ne hij] at hj
      by_cases hik : i = k
      · subst hik
        rw [List.getElem?_set_self hil] at hk
        cases hk
        rcases hf b h2 with h3 | h3
        · exact w.apart i j e f hi hj hij b h3 h1
        · have := En.lt (w.get j hj) b h1; omega
      · rw [List.getElem?_set_ne hik] at hk
        exact w.apart j k f g hj hk hn b h1 h2

def picks (L : List En) : List Nat → List En
  | [] => []
  | i :: l => match L[i]? with
    | some e => e :: picks L l
    | none => picks L l
theorem picks_get : ∀ {is : List Nat} {k : Nat} {e : En}, (picks L is)[k]? = some e → ∃ j i : Nat, is[j]? = some i ∧ L[i]? = some e ∧ k ≤ j ∧ True
  | [], _, _, hk => by simp [picks] at hk
  | i :: is, k, e, hk => by
    simp only [picks] at hk
    split at hk
    · rename_i e1 he1
      cases k with
      | zero => cases hk; exact ⟨0, i, rfl, he1, Nat.le_refl _, trivial⟩
      | succ k =>
        obtain ⟨j, i', h1, h2, h3, _⟩ := picks_get (is := is) hk
        exact ⟨j + 1, i', h1, h2, by omega, trivial⟩
    · obtain ⟨j, i', h1, h2, h3, _⟩ := picks_get (is := is) hk
      exact ⟨j + 1, i', h1, h2, by omega, trivial⟩

theorem picks_two : ∀ {is : List Nat} {k l : Nat} {e f : En}, is.Nodup → (picks L is)[k]? = some e → (picks L is)[l]? = some f → k ≠ l → ∃ i j : Nat, L[i]? = some e ∧ L[j]? = some f ∧ i ≠ j ∧ i ∈ is ∧ j ∈ is
  | [], _, _, _, _, _, hk, _, _ => by simp [picks] at hk
  | i :: is, k, l, e, f, hd, hk, hl, hn => by
    obtain ⟨hi, hd⟩ := List.nodup_cons.1 hd
    simp only [picks] at hk hl
    split at hk
    · rename_i e1 he1
      rw [he1] at hl
      cases k with
      | zero =>
        cases hk
        cases l with
        | zero => exact absurd rfl hn
        | succ l =>
          obtain ⟨j, i', h1, h2, _⟩ := picks_get (is := is) hl
          have hm : i' ∈ is := List.mem_of_getElem? h1
          exact ⟨i, i', he1, h2, fun e => hi (e ▸ hm), by simp, by simp [hm]⟩
      | succ k =>
        cases l with
        | zero =>
          cases hl
          obtain ⟨j, i', h1, h2, _⟩ := picks_get (is := is) hk
          have hm : i' ∈ is := List.mem_of_getElem? h1
          exact ⟨i', i, h2, he1, fun e => hi (e ▸ hm), by simp [hm], by simp⟩
        | succ l =>
          obtain ⟨a, b, h1, h2, h3, h4, h5⟩ := picks_two (is := is) hd hk hl (by omega)
          exact ⟨a, b, h1, h2, h3, by simp [h4], by simp [h5]⟩
    · rename_i hno
      have hl : (match L[i]? with | some e => e :: picks L is | none => picks L is)[l]? = some f := hl
      rw [hno] at hl
      obtain ⟨a, b, h1, h2, h3, h4, h5⟩ := picks_two (is := is) hd hk hl hn
      exact ⟨a, b, h1, h2, h3, by simp [h4], by simp [h5]⟩

theorem St.pick (w : St T h0 h L) (is : List Nat) (hd : is.Nodup) : St T h0 h (picks L is) := by
  refine ⟨w.chg, fun k e hk => ?_, fun k l e f hk hl hn => ?_⟩
  · obtain ⟨_, i, _, hi, _⟩ := picks_get hk
    exact w.ents i e hi
  · obtain ⟨i, j, h1, h2, h3, _⟩ := picks_two hd hk hl hn
    exact w.apart i j e f h1 h2 h3

theorem St.swap {e f : En} (w : St T h0 h (e :: f :: L)) : St T h0 h (f :: e :: L) := by
  have key : ∀ i : Nat, ∃ j : Nat, (f :: e :: L)[i]? = (e :: f :: L)[j]? ∧ j = (if i = 0 then 1 else if i = 1 then 0 else i) := fun i => ⟨_, by
    match i with
    | 0 => rfl
    | 1 => rfl
    | i + 2 => simp, rfl⟩
  refine ⟨w.chg, fun i x hi => ?_, fun i j x y hi hj hn => ?_⟩
  · obtain ⟨k, hk, _⟩ := key i
    exact w.ents k x (hk ▸ hi)
  · obtain ⟨k, hk, ek⟩ := key i
    obtain ⟨l, hl, el⟩ := key j
    refine w.apart k l x y (hk ▸ hi) (hl ▸ hj) ?_
    rw [ek, el]
    split <;> split <;> (try split) <;> (try split) <;> omega

theorem St.ld {b o : Nat} {us : List Value} {v : Value} (w : St T h0 h L) (i : Nat) (hi : L[i]? = some (.b b us)) (hv : us[o]? = some v) : cell h b o = some v := cell_blk (w.get i hi) hv
theorem St.ld1 {b o : Nat} {us : List Value} {v : Value} {K : Value → Prop} (w : St T h0 h L) (i : Nat) (hi : L[i]? = some (.b b us)) (hv : us[o]? = some v) (k : K v) : ∃ v, cell h b o = some v ∧ K v := ⟨v, w.ld i hi hv, k⟩
theorem St.ldw {b n : Nat} {us : List Value} {K : List Value → Prop} (w : St T h0 h L) (i : Nat) (hi : L[i]? = some (.b b us)) (hn : us.length = n) (k : K us) : ∃ vs, vs.length = n ∧ Cells h b 0 vs ∧ K vs := ⟨us, hn, cells_blk (w.get i hi), k⟩
theorem cells_mid {h : Heap} {b o n : Nat} {us : List Value} (hb : Blk h b us) : Cells h b o ((us.drop o).take n) := cells_part hb fun i v hv => by
  rw [List.getElem?_take] at hv
  split at hv
  · rw [List.getElem?_drop] at hv; exact hv
  · cases hv
theorem St.ldn {b o n : Nat} {us : List Value} {K : List Value → Prop} (w : St T h0 h L) (i : Nat) (hi : L[i]? = some (.b b us)) (hn : ((us.drop o).take n).length = n) (k : K ((us.drop o).take n)) : ∃ vs, vs.length = n ∧ Cells h b o vs ∧ K vs := ⟨_, hn, cells_mid (w.get i hi), k⟩

theorem St.put {b : Nat} {us l' : List Value} (w : St T h0 h L) (i : Nat) (hi : L[i]? = some (.b b us)) (p : Put h h' b l') : St T h0 h' (L.set i (.b b l')) :=
  w.set i hi p.chg (fun _ hk => .inl hk) (show Blk h' b l' from p.blk) (fun _ hk => .inl hk)
theorem St.st1 {b o n : Nat} {l ys : List Value} {K : Heap → Prop} (w : St T h0 h L) (i : Nat) (hi : L[i]? = some (.b b l)) (h1 : Nat.ble (o + n) l.length = true) (h2 : ys.length = n) (h3 : ys.all Value.oneCell' = true)
    (k : ∀ h', St T h0 h' (L.set i (.b b (splice l o ys))) → K h') : ∃ l, Blk h b l ∧ o + n ≤ l.length ∧ ys.length = n ∧ (∀ u ∈ ys, u.oneCell' = true) ∧ ∀ h', Put h h' b (splice l o ys) → K h' :=
  ⟨l, w.get i hi, Nat.le_of_ble_eq_true h1, h2, fun u hu => List.all_eq_true.1 h3 u hu, fun h' p => k h' (w.put i hi p)⟩

theorem St.st2 {b o n : Nat} {l ys : List Value} {K : Heap → Prop} (w : St T h0 h L) (i : Nat) (hi : L[i]? = some (.b b l)) (h1 : Nat.ble (o + n) l.length = true) (h2 : ys.length = n) (h3 : ys.all Value.oneCell' = true)
    (k : ∀ h', St T h0 h' (L.set i (.b b (splice l o ys))) → Chg [b] h h' → K h') : ∃ l, Blk h b l ∧ o + n ≤ l.length ∧ ys.length = n ∧ (∀ u ∈ ys, u.oneCell' = true) ∧ ∀ h', Put h h' b (splice l o ys) → K h' :=
  ⟨l, w.get i hi, Nat.le_of_ble_eq_true h1, h2, fun u hu => List.all_eq_true.1 h3 u hu, fun h' p => k h' (w.put i hi p) p.chg⟩

theorem St.st3 {b o n : Nat} {l ys : List Value} {K : Heap → Prop} (w : St T h0 h L) (i : Nat) (hi : L[i]? = some (.b b l)) (h1 : Nat.ble (o + n) l.length = true) (h2 : ys.length = n) (h3 : ∀ u ∈ ys, u.oneCell' = true)
    (k : ∀ h', St T h0 h' (L.set i (.b b (splice l o ys))) → K h') : ∃ l, Blk h b l ∧ o + n ≤ l.length ∧ ys.length = n ∧ (∀ u ∈ ys, u.oneCell' = true) ∧ ∀ h', Put h h' b (splice l o ys) → K h' :=
  ⟨l, w.get i hi, Nat.le_of_ble_eq_true h1, h2, h3, fun h' p => k h' (w.put i hi p)⟩

def En.nil : En := .x [] (fun _ => True) (fun _ _ _ _ _ _ => trivial) (fun _ _ _ hb => (nomatch hb))
theorem St.gone (w : St T h0 h L) {S : List Nat} (i : Nat) (hi : L[i]? = some e) (hc : Chg S h h') (hS : ∀ b ∈ S, b ∈ e.fp ∨ h.size ≤ b) : St T h0 h' (L.set i En.nil) := w.set i hi hc hS trivial fun b hb => (nomatch (show b ∈ ([] : List Nat) from hb))
theorem St.ne {b b' : Nat} {l l' : List Value} (w : St T h0 h L) (i j : Nat) (hi : L[i]? = some (.b b l)) (hj : L[j]? = some (.b b' l')) (hn : i ≠ j) : b ≠ b' := fun e => w.apart i j _ _ hi hj hn b (List.mem_singleton.2 rfl) (List.mem_singleton.2 e)

theorem St.app {α : Type} {enc : α → List Value} {size bytes : Nat} {z : List Value} {a a' : Option Addr} {n c m c2 : Nat} {l l2 : List α} {K : Value → Heap → Prop} (w : St T h0 h L) (i : Nat) (hi : L[i]? = some (.o enc size (.slice a n c) l))
    (hsz : ∀ x, (enc x).length = size) (h1 : ∀ x, ∀ u ∈ enc x, u.oneCell' = true) (hz : z.length = size) (hsrc : SL enc h (.slice a' m c2) l2) (hbound : ((l.length + l2.length) * 2 + 768) * bytes ≤ 281474976710656)
    (k : ∀ v' h', St T h0 h' (L.set i (.o enc size v' (l ++ l2))) → K v' h') : appP h K size bytes z a n c a' m :=
  app_own hsz h1 hz (w.get i hi) hsrc hbound fun v' h' ho hc hb => k v' h' (w.set i hi hc (fun _ hk => .inl hk) ho hb)

theorem St.mput {b : Nat} {es es' : List MapEntry} {c c' : Nat} (w : St T h0 h L) (i : Nat) (hi : L[i]? = some (.m b es c)) (p : PutO h h' b (.map ⟨es'⟩ c')) : St T h0 h' (L.set i (.m b es' c')) :=
  w.set i hi p.chg (fun _ hk => .inl hk) (show MapB h' b es' c' from p.blk) (fun _ hk => .inl hk)

structure As (h0 h : Heap) (e : En) : Prop where
  chg : Chg [] h0 h
  at_ : e.at h
  fresh : ∀ b ∈ e.fp, h0.size ≤ b
structure Own (e : En) (h : Heap) (e' : En) (h' : Heap) : Prop where
  at_ : e'.at h'
  chg : Chg e.fp h h'
  fresh : ∀ b ∈ e'.fp, b ∈ e.fp ∨ h.size ≤ b

theorem As.st (x : As h0 h e) : St e.fp h h [e] := by
  refine ⟨(Chg.refl h).mono (by simp), fun i e1 hi => ?_, fun i j e1 f hi hj hn => ?_⟩
  · match i, hi with
    | 0, hi => cases hi; exact ⟨x.at_, fun b hb => .inl hb⟩
  · match i, j, hi, hj, hn with
    | 0, 0, _, _, hn => exact absurd rfl hn
theorem As.base {M : List En} (x : As h0 h e) (w : St e.fp h h' M) : Chg [] h0 h' := x.chg.fresh w.chg x.fresh
theorem As.ext (x : As h0 h e) (hc : Chg [] h h') : As h0 h' e := ⟨x.chg.nil hc, En.chg x.at_ hc (by simp), x.fresh⟩
theorem As.out {M : List En} (x : As h0 h e) (w : St e.fp h h' M) (i : Nat) (hi : M[i]? = some e') : As h0 h' e' ∧ Own e h e' h' := by
  have hz := x.chg.size
  obtain ⟨h1, h2⟩ := w.ents i e' hi
  refine ⟨⟨x.base w, h1, fun b hb => ?_⟩, h1, w.chg, h2⟩
  rcases h2 b hb with h3 | h3
  · exact x.fresh b h3
  · omega
theorem St.own {M : List En} (w : St T h0 h M) (i : Nat) (hi : M[i]? = some e) (o : Own e h e' h') : St T h0 h' (M.set i e') := w.set i hi o.chg (fun _ hk => .inl hk) o.at_ o.fresh
theorem Own.refl (he : e.at h) (hc : Chg [] h h') : Own e h e h' := ⟨En.chg he hc (by simp), hc.mono (by simp), fun _ hb => .inl hb⟩
theorem St.as {M : List En} (w : St [] h0 h M) (i : Nat) (hi : M[i]? = some e) : As h0 h e := ⟨w.chg, w.get i hi, fun b hb => by
  rcases (w.ents i e hi).2 b hb with h1 | h1
  · cases h1
  · exact h1⟩

section
variable {P : Program} {f : Nat} {vs : List Value} {K : Value → Heap → Prop} {Qp : List PanicEntry → Heap → Prop} {v : Value}
theorem St.call {R : Value → Heap → Prop} (w : St T h0 h L) (hc : CallsH P f vs h (Ret fun r h' => R r h' ∧ Chg [] h h')) (k : ∀ r h', R r h' → St T h0 h' L → K r h') : CallsH P f vs h (after K Qp) :=
  call_ret hc fun r h' hr => k r h' hr.1 (w.ext hr.2)
theorem St.callv (w : St T h0 h L) (hc : CallsH P f vs h (Ret fun r h' => r = v ∧ Chg [] h h')) (k : ∀ h', St T h0 h' L → K v h') : CallsH P f vs h (after K Qp) :=
  call_ret hc fun r h' hr => by obtain ⟨rfl, hch⟩ := hr; exact k h' (w.ext hch)
theorem callp (hc : CallsH P f vs h (Ret fun r h' => r = v ∧ h' = h)) (k : K v h) : CallsH P f vs h (after K Qp) :=
  call_ret hc fun r h' hr => by obtain ⟨rfl, e⟩ := hr; have e := e.symm; subst e; exact k
theorem St.callq {R : Value → Heap → Prop} (w : St T h0 h L) (hc : CallsH P f vs h (Ret fun r h' => R r h' ∧ Chg [] h h')) (k : ∀ r h', R r h' → St T h0 h' L → K r h') : CallsH P f vs h (fun e h' => Ext h h' ∧ after K Qp e h') :=
  callq_ret hc fun r h' hr => ⟨hr.2.ext, k r h' hr.1 (w.ext hr.2)⟩
theorem St.callqv (w : St T h0 h L) (hc : CallsH P f vs h (Ret fun r h' => r = v ∧ Chg [] h h')) (k : ∀ h', St T h0 h' L → K v h') : CallsH P f vs h (fun e h' => Ext h h' ∧ after K Qp e h') :=
  callq_ret hc fun r h' hr => by obtain ⟨rfl, hch⟩ := hr; exact ⟨hch.ext, k h' (w.ext hch)⟩
end

end Go.Sx
namespace Go.Proofs.YtgmkldaonkbjgaaGreatDoor
open Go Go.Sx Go.Proofs.YtgmkldaonkbjgaaGreatDoor.C

def asE (ab kb : Nat) (now : Int) (av lv : Value) (L : List Eff) : En :=
  .x (ab :: vblk lv) (fun h => Blk h ab [ptr kb, .int .i64 now, av, lv] ∧ OL encD 5 h lv L ∧ ab ∉ vblk lv)
    (fun S h h' hc hn ⟨h1, h2, h3⟩ => ⟨h1.chg hc (hn _ (by simp)), h2.chg hc (fun b hb => hn _ (by simp [hb])), h3⟩)
    (fun h ⟨h1, h2, _⟩ b hb => by
      rcases List.mem_cons.1 hb with rfl | hb
      · exact h1.lt
      · exact OL.lt h2 b hb)

section
variable {h0 h h1 h' : Heap} {ab kb : Nat} {now : Int} {av lv lv' : Value} {A : List ByteArray} {L E : List Eff} {M : List En} {T : List Nat}

theorem AS.st (x : AS h0 h ab kb now av A lv L) : St (ab :: vblk lv) h h [asE ab kb now av lv L] := by
  refine ⟨(Chg.refl h).mono (by simp), fun i e hi => ?_, fun i j e f hi hj hn => ?_⟩
  · match i, hi with
    | 0, hi => cases hi; exact ⟨⟨x.blk, x.effs, fun hm => (x.own ab hm).2 rfl⟩, fun b hb => .inl hb⟩
  · match i, j, hi, hj, hn with
    | 0, 0, _, _, hn => exact absurd rfl hn

theorem AS.out (x : AS h0 h ab kb now av A lv L) (w : St (ab :: vblk lv) h h' M) (i : Nat) (hi : M[i]? = some (asE ab kb now av lv' E)) : AS h0 h' ab kb now av A lv' E ∧ Aside h h' ab lv lv' := by
  obtain ⟨⟨hB, ho, hn⟩, hf⟩ := w.ents i _ hi
  have hz := x.chg.size
  have hT : ∀ b ∈ ab :: vblk lv, h0.size ≤ b := fun b hb => by
    rcases List.mem_cons.1 hb with rfl | hb
    · exact x.fresh
    · exact (x.own b hb).1
  have hv : ∀ b ∈ vblk lv', b ∈ vblk lv ∨ h.size ≤ b := fun b hb => by
    rcases hf b (List.mem_cons_of_mem _ hb) with h1 | h1
    · rcases List.mem_cons.1 h1 with rfl | h1
      · exact absurd hb hn
      · exact .inl h1
    · exact .inr h1
  refine ⟨⟨x.chg.fresh w.chg hT, x.fresh, x.args, hB, ho, fun b hb => ⟨?_, fun e => hn (e ▸ hb)⟩⟩, .mk hv w.chg⟩
  rcases hv b hb with h1 | h1
  · exact (x.own b h1).1
  · omega

theorem _root_.Go.Sx.St.aside (w : St T h1 h M) (i : Nat) (hi : M[i]? = some (asE ab kb now av lv L)) (x : AS h0 h' ab kb now av A lv' E) (a : Aside h h' ab lv lv') : St T h1 h' (M.set i (asE ab kb now av lv' E)) := by
  refine w.set i hi a.2.1 (fun _ hk => .inl hk) ⟨x.blk, x.effs, fun hm => (x.own ab hm).2 rfl⟩ fun b hb => ?_
  rcases List.mem_cons.1 hb with rfl | hb
  · exact .inl (List.mem_cons_self ..)
  · rcases a.1 b hb with h3 | h3
    · exact .inl (List.mem_cons_of_mem _ h3)
    · exact .inr h3

theorem _root_.Go.Sx.St.lda {o : Nat} {v : Value} {K : Value → Prop} (w : St T h1 h M) (i : Nat) (hi : M[i]? = some (asE ab kb now av lv L)) (hv : [ptr kb, .int .i64 now, av, lv][o]? = some v) (k : K v) : ∃ v, cell h ab o = some v ∧ K v := ⟨v, cell_blk (w.get i hi).1 hv, k⟩
end

def thE (t : Thing) (pv lv rv : Value) : En :=
  .x (bl3 pv lv rv) (fun h => TH h (cellsT t pv lv rv) t ∧ ∀ b ∈ bl3 pv lv rv, b < h.size) (fun S h h' hc hn ⟨h1, h2⟩ => ⟨th_off h1 hc hn, fun b hb => Nat.lt_of_lt_of_le (h2 b hb) hc.size⟩) (fun h ⟨_, h2⟩ b hb => h2 b hb)

def GetC (h : Heap) (kb : Nat) (key : ByteArray) (now : Int) (go : Option Thing) : Prop :=
  ∀ {h1}, Chg [] h h1 → CallsH Tryz.prog 106 [ptr kb, .string key, .int .i64 now] h1 (Ret fun r h' => GetR h1 h' go r ∧ Chg [] h1 h')

def apart7 (c d e0 e1 b v a1 a2 a3 : Nat) (E : List (Nat × Value)) : Bool :=
  !Nat.beq d e0 && !Nat.beq e0 b && !Nat.beq e0 e1 && !Nat.beq e1 b && !Nat.beq b v && !Nat.beq b c && !Nat.beq b d && !Nat.beq b e1 && !Nat.beq a1 b && !Nat.beq a2 b && !Nat.beq a3 b &&
    E.all fun p => !Nat.beq p.1 c && !Nat.beq p.1 d && !Nat.beq p.1 e0 && !Nat.beq p.1 e1 && !Nat.beq p.1 b && !Nat.beq p.1 v

theorem beqF {a b : Nat} (h : Nat.beq a b = false) : a ≠ b := fun e => by subst e; rw [Nat.beq_refl] at h; cases h
theorem beqT {a b : Nat} (h : a ≠ b) : Nat.beq a b = false := by
  cases hb : Nat.beq a b with
  | false => rfl
  | true => exact absurd (Nat.eq_of_beq_eq_true hb) h

theorem sub7 {σ τ : Env} {c d e0 e1 b v : Nat} : ∀ {E : List (Nat × Value)}, SubL σ E → (E.all fun p => !Nat.beq p.1 c && !Nat.beq p.1 d && !Nat.beq p.1 e0 && !Nat.beq p.1 e1 && !Nat.beq p.1 b && !Nat.beq p.1 v) = true →
    (∀ t, t ≠ c → t ≠ d → t ≠ e0 → t ≠ e1 → t ≠ b → t ≠ v → τ t = σ t) → SubL τ E
  | [], _, _, _ => trivial
  | (n, u) :: E, ⟨h1, h2⟩, ha, ht => by
    simp only [List.all_cons, Bool.and_eq_true, Bool.not_eq_true'] at ha
    obtain ⟨⟨⟨⟨⟨⟨n1, n2⟩, n3⟩, n4⟩, n5⟩, n6⟩, ha⟩ := ha
    exact ⟨by rw [ht n (beqF n1) (beqF n2) (beqF n3) (beqF n4) (beqF n5) (beqF n6)]; exact h1, sub7 h2 ha ht⟩

theorem get_two {σ : Env} {Qp : List PanicEntry → Heap → Prop} {K : Env → Heap → Prop} {T : List Nat} {h0 h : Heap} {L : List En} {kb : Nat} {key : ByteArray} {now : Int} {go : Option Thing} {c d e0 e1 b v a1 a2 a3 : Nat} (w : St T h0 h L) (get : GetC h kb key now go) (E : List (Nat × Value))
    (h1 : σ a1 = some (ptr kb)) (h2 : σ a2 = some (.string key)) (h3 : σ a3 = some (.int .i64 now)) (hE : SubL σ E) (ha : apart7 c d e0 e1 b v a1 a2 a3 E = true) (hm : MonoE K)
    (k : ∀ h' b6 pv lv rv, St T h0 h' (.b b6 (cellsT (go.getD zeroT) pv lv rv) :: thE (go.getD zeroT) pv lv rv :: L) → K (mk ((b, ptr b6) :: (v, .bool go.isSome) :: E)) h') :
    sops Tryz.prog Qp K [⟨some c, none, .callq 106 [.tmp a1, .tmp a2, .tmp a3]⟩, ⟨some d, none, .mv (.tmp c)⟩, ⟨some e0, none, .ext (.tmp d) 0⟩, ⟨some e1, none, .ext (.tmp d) 1⟩, ⟨some b, none, .new [(.int .i64 0), (.string ⟨#[]⟩), (.slice none 0 0), (.slice none 0 0), (.slice none 0 0), (.bool false), (.int .i64 0)]⟩,
      ⟨none, none, .st 7 (.tmp b) (.tmp e0)⟩, ⟨some v, none, .mv (.tmp e1)⟩] σ h ∧
    sops Tryz.prog Qp K [⟨some b, none, .new [(.int .i64 0), (.string ⟨#[]⟩), (.slice none 0 0), (.slice none 0 0), (.slice none 0 0), (.bool false), (.int .i64 0)]⟩, ⟨some c, none, .callq 106 [.tmp a1, .tmp a2, .tmp a3]⟩, ⟨some d, none, .mv (.tmp c)⟩, ⟨some e0, none, .ext (.tmp d) 0⟩, ⟨some e1, none, .ext (.tmp d) 1⟩,
      ⟨none, none, .st 7 (.tmp b) (.tmp e0)⟩, ⟨some v, none, .mv (.tmp e1)⟩] σ h := by
  simp only [apart7, Bool.and_eq_true, Bool.not_eq_true'] at ha
  obtain ⟨⟨⟨⟨⟨⟨⟨⟨⟨⟨⟨n1, n2⟩, n3⟩, n4⟩, n5⟩, n6⟩, n7⟩, n8⟩, n9⟩, n10⟩, n11⟩, ha⟩ := ha
  have n2' : Nat.beq b e0 = false := beqT (Ne.symm (beqF n2))
  have fin : ∀ {τ : Env} {h' : Heap} {b6 : Nat} {pv lv rv : Value}, τ b = some (ptr b6) → τ v = some (.bool go.isSome) → (∀ t, t ≠ c → t ≠ d → t ≠ e0 → t ≠ e1 → t ≠ b → t ≠ v → τ t = σ t) →
      St T h0 h' (.b b6 (cellsT (go.getD zeroT) pv lv rv) :: thE (go.getD zeroT) pv lv rv :: L) → K τ h' := fun hb hv ho w => hm _ _ _ (sub_mk (l := (b, ptr _) :: (v, .bool go.isSome) :: E) ⟨hb, hv, sub7 hE ha ho⟩) (k _ _ _ _ _ w)
  have seven7 : ∀ {t : Thing} {pv lv rv : Value}, splice [(.int .i64 0), (.string ⟨#[]⟩), (.slice none 0 0), (.slice none 0 0), (.slice none 0 0), (.bool false), (.int .i64 0)] 0 (cellsT t pv lv rv) = cellsT t pv lv rv := fun {t pv lv rv} => rfl
  refine ⟨?_, ?_⟩
  · simp only [sops, sopr, sop, evs, ev, h1, h2, h3]
    refine callq_ret (get (Chg.refl h)) ?_
    rintro _ h4 ⟨⟨pv, lv, rv, rfl, tu, fr⟩, c4⟩
    refine ⟨c4.ext, ?_⟩
    have w4 := w.add (e := thE (go.getD zeroT) pv lv rv) c4 ⟨tu, fun b hb => (fr b hb).2⟩ fun b hb => (fr b hb).1
    simp only [upd, Nat.beq_refl, cond_true, cond_false, n1, n2, n3, n4, n5, n6, n7, n8]
    intro b6 h5 g5
    have w5 := w4.new g5
    refine w5.st3 0 rfl rfl rfl (thing_one tu) fun h6 w6 => ?_
    refine fin ?_ ?_ ?_ w6
    · simp [upd, n5]; rfl
    · simp [upd]
    · intro t t1 t2 t3 t4 t5 t6
      simp [upd, beqT t1, beqT t2, beqT t3, beqT t4, beqT t5, beqT t6]
  · simp only [sops, sopr, sop, evs, ev]
    intro b6 h4 g4
    have w4 := w.new g4
    simp only [upd, Nat.beq_refl, cond_true, cond_false, n9, n10, n11, h1, h2, h3]
    refine callq_ret (get g4.chg) ?_
    rintro _ h5 ⟨⟨pv, lv, rv, rfl, tu, fr⟩, c5⟩
    refine ⟨c5.ext, ?_⟩
    have w5 := w4.add (e := thE (go.getD zeroT) pv lv rv) c5 ⟨tu, fun b hb => (fr b hb).2⟩ fun b hb => (fr b hb).1
    simp only [upd, Nat.beq_refl, cond_true, cond_false, n1, n2, n2', n3, n4, n5, n6, n7, n8]
    refine w5.st3 1 rfl rfl rfl (thing_one tu) fun h6 w6 => ?_
    refine fin ?_ ?_ ?_ (w6.swap)
    · simp [upd, n5, n6, n7, n8, n2']; rfl
    · simp [upd]
    · intro t t1 t2 t3 t4 t5 t6
      simp [upd, beqT t1, beqT t2, beqT t3, beqT t4, beqT t5, beqT t6]

structure Rep where
  k : Int
  i : Int
  s : ByteArray
  l : List (Int × Int × ByteArray)
abbrev rep (k i : Int) (s : ByteArray) : Rep := ⟨k, i, s, []⟩
def encQ (x : Int × Int × ByteArray) : List Value := [.int .i64 x.1, .int .i64 x.2.1, .string x.2.2, .slice none 0 0]
theorem encQ_len (x : Int × Int × ByteArray) : (encQ x).length = 4 := rfl
theorem encQ_one (x : Int × Int × ByteArray) : ∀ u ∈ encQ x, u.oneCell' = true := repV_ones x.1 x.2.1 x.2.2
def RepAt (z : Nat) (h : Heap) (v : Value) (q : Rep) : Prop := ∃ a n c, v = .agg ⟨[.int .i64 q.k, .int .i64 q.i, .string q.s, .slice a n c]⟩ ∧ SL encQ h (.slice a n c) q.l ∧ ∀ b ∈ ablk a, z ≤ b

theorem four {ws vs : List Value} (hw : ws.length = 4) (hv : vs.length = 4) : splice ws 0 vs = vs := by
  match ws, hw, vs, hv with
  | [_, _, _, _], _, [_, _, _, _], _ => rfl

def CmdR (h0 h : Heap) (ab kb : Nat) (now : Int) (av : Value) (A : List ByteArray) (lv : Value) (res : Except ByteArray (Rep × List Eff)) : Ending → Heap → Prop :=
  Out (fun r h' => ∃ q E, res = .ok (q, E) ∧ RepAt h.size h' r q ∧ ∃ lv', AS h0 h' ab kb now av A lv' E ∧ Aside h h' ab lv lv') (fun why h' => res = .error why ∧ Chg (ab :: vblk lv) h h')

section
variable {h0 h h1 h' : Heap} {ab kb sb mb c b2 : Nat} {now lo hi k n : Int} {av lv lv' : Value} {A : List ByteArray} {L E : List Eff} {M : List En} {T : List Nat} {s key why : ByteArray} {m : List KI} {S : Space} {res : Except ByteArray (Rep × List Eff)}
  {K : Value → Heap → Prop} {Qp : List PanicEntry → Heap → Prop}

theorem AS.bad (_ : AS h0 h ab kb now av A lv L) (w : St (ab :: vblk lv) h h' M) (he : res = .error why) : CmdR h0 h ab kb now av A lv res (.panicked (stopE why)) h' := ⟨why, rfl, he, w.chg⟩
theorem AS.ends (x : AS h0 h ab kb now av A lv L) (w : St (ab :: vblk lv) h h' M) {v : Value} {q : Rep} (j : Nat) (hj : M[j]? = some (asE ab kb now av lv' E)) (hq : RepAt h.size h' v q) (he : res = .ok (q, E)) :
    CmdR h0 h ab kb now av A lv res (.returned v) h' := ⟨q, E, he, hq, lv', x.out w j hj⟩
theorem AS.fin (x : AS h0 h ab kb now av A lv L) (w : St (ab :: vblk lv) h h' M) (i j : Nat) (hi : M[i]? = some (.b b2 [.int .i64 k, .int .i64 n, .string s, .slice none 0 0])) (hj : M[j]? = some (asE ab kb now av lv' E)) (he : res = .ok (rep k n s, E)) :
    ∃ vs, vs.length = 4 ∧ Cells h' b2 0 vs ∧ CmdR h0 h ab kb now av A lv res (.returned (.agg ⟨vs⟩)) h' :=
  ⟨_, rfl, cells_blk (w.get i hi), x.ends w j hj ⟨none, 0, 0, rfl, SL.nil, fun b hb => (nomatch (show b ∈ ([] : List Nat) from hb))⟩ he⟩

def wArgs : ByteArray := ⟨#[69, 82, 82, 32, 97, 114, 103, 115]⟩
theorem AS.many (x : AS h0 h ab kb now av A lv L) (w : St (ab :: vblk lv) h h1 M) (i : Nat) (hi' : M[i]? = some (asE ab kb now av lv' E)) (hok : lo ≤ A.length ∧ A.length ≤ hi → ∀ v, K v h1) (hbad : ¬ (lo ≤ A.length ∧ A.length ≤ hi) → Qp (stopE wArgs) h1) :
    CallsH Tryz.prog 64 [ptr ab, .int .i64 lo, .int .i64 hi] h1 (after K Qp) :=
  call_out (many_calls (x.out w i hi').1) (fun v h' hr => by obtain ⟨h2, e⟩ := hr; have e := e.symm; subst e; exact hok h2 v) (fun v h' hr => by obtain ⟨h2, rfl, e⟩ := hr; have e := e.symm; subst e; exact hbad h2)

theorem must_go {b : Bool} (hok : b = true → ∀ v, K v h) (hbad : b = false → Qp (stopE s) h) : CallsH Tryz.prog 101 [.bool b, .string s] h (after K Qp) :=
  call_out must_calls (fun v h' hr => by obtain ⟨h2, e⟩ := hr; have e := e.symm; subst e; exact hok h2 v) (fun v h' hr => by obtain ⟨h2, rfl, e⟩ := hr; have e := e.symm; subst e; exact hbad h2)
theorem must_yes (hok : ∀ v, K v h) : CallsH Tryz.prog 101 [.bool true, .string s] h (after K Qp) := must_go (fun _ => hok) (fun e => by cases e)
theorem must_no (hbad : Qp (stopE s) h) : CallsH Tryz.prog 101 [.bool false, .string s] h (after K Qp) := must_go (fun e => by cases e) (fun _ => hbad)

theorem AS.argF (x : AS h0 h ab kb now av A lv L) (hi : 0 < A.length) : ∃ b o c, av = .slice (some ⟨b, o, none⟩) A.length c := by
  have hs := x.args h x.chg
  obtain ⟨a, c, rfl, hcc⟩ := hs.form
  obtain ⟨b, o, rfl⟩ := hs.addr hi
  exact ⟨b, o, c, rfl⟩
theorem AS.ix {i : Int} {b o n cc : Nat} {K : Value → Prop} (x : AS h0 h ab kb now (.slice (some ⟨b, o, none⟩) n cc) A lv L) (c : Chg [] h0 h1) (j : Nat) (e : i = j) (hs : A[j]? = some s) (k : K (.string s)) :
    0 ≤ i ∧ i < (n : Int) ∧ ∃ v, cell h1 b (o + i.toNat * 1) = some v ∧ K v := by
  subst e
  have hj := (List.getElem?_eq_some_iff.1 hs).1
  have hcs := (x.args h1 c).cells encS_len hs
  have hn := (x.args h1 c).len.1
  refine ⟨by omega, by omega, _, ?_, k⟩
  have := hcs 0 _ rfl
  simpa using this

theorem AS.base (x : AS h0 h ab kb now av A lv L) (w : St (ab :: vblk lv) h h' M) : Chg [] h0 h' := x.chg.fresh w.chg fun b hb => by
  rcases List.mem_cons.1 hb with rfl | hb
  · exact x.fresh
  · exact (x.own b hb).1

theorem AS.text (x : AS h0 h ab kb now av A lv L) (kr0 : KR h0 kb sb mb c m) (hs : Sorted m S) (w : St (ab :: vblk lv) h h1 M) (i : Nat) (hi' : M[i]? = some (asE ab kb now av lv' E))
    (hok : ∀ h', (∀ t, getS S key now = some t → t.kind = 1) → St (ab :: vblk lv) h h' M → K (.tuple #[.string ((getS S key now).getD zeroT).text, .bool (getS S key now).isSome]) h')
    (hbad : ∀ h' t, getS S key now = some t → t.kind ≠ 1 → St (ab :: vblk lv) h h' M → Qp (stopE wType) h') : CallsH Tryz.prog 107 [ptr ab, .string key] h1 (after K Qp) :=
  call_out (text_calls key (x.out w i hi').1 kr0 hs) (fun v h' hr => by obtain ⟨h2, rfl, c⟩ := hr; exact hok h' h2 (w.ext c)) (fun v h' hr => by obtain ⟨⟨t, h2, h3⟩, rfl, c⟩ := hr; exact hbad h' t h2 h3 (w.ext c))

theorem AS.put (x : AS h0 h ab kb now av A lv L) {stays : Bool} (kr0 : KR h0 kb sb mb c m) (hs : Sorted m S) (w : St (ab :: vblk lv) h h1 M) (i : Nat) (hi' : M[i]? = some (asE ab kb now av lv' E)) (hL : E.length ≤ 1000000) (hk : key.size < 4611686018427387904) (hz : s.size < 4611686018427387904)
    (hok : ∀ v h' lv2, (s.size ≤ 1048576 ∧ key.size ≤ 1048576) → St (ab :: vblk lv) h h' (M.set i (asE ab kb now av lv2 (E ++ putE S key s now stays))) → K v h')
    (hbad : ¬ (s.size ≤ 1048576 ∧ key.size ≤ 1048576) → Qp (stopE wLong) h1) : CallsH Tryz.prog 103 [ptr ab, .string key, .string s, .bool stays] h1 (after K Qp) :=
  call_out (put_calls key s stays (x.out w i hi').1 kr0 hs hL hk hz) (fun v h' hr => by obtain ⟨h2, lv2, x2, a2⟩ := hr; exact hok v h' lv2 h2 (w.aside i hi' x2 a2)) (fun v h' hr => by obtain ⟨h2, rfl, e⟩ := hr; have e := e.symm; subst e; exact hbad h2)

theorem AS.add (x : AS h0 h ab kb now av A lv L) {F : List Eff} {v : Value} (w : St (ab :: vblk lv) h h1 M) (i : Nat) (hi' : M[i]? = some (asE ab kb now av lv' E)) (hv : SL encD h1 v F) (hb : ((E.length + F.length) * 2 + 768) * 64 ≤ 281474976710656)
    (hok : ∀ v h' lv2, St (ab :: vblk lv) h h' (M.set i (asE ab kb now av lv2 (E ++ F))) → K v h') : CallsH Tryz.prog 104 [ptr ab, v] h1 (after K Qp) :=
  call_ret (add_calls (x.out w i hi').1 hv hb) fun v h' hr => by obtain ⟨lv2, x2, a2⟩ := hr; exact hok v h' lv2 (w.aside i hi' x2 a2)

theorem AS.num (x : AS h0 h ab kb now av A lv L) {j : Nat} (hl : LaidN h0) (hj : j < A.length) (hz : A[j].size < 281474976710656) (w : St (ab :: vblk lv) h h1 M) (i : Nat) (hi' : M[i]? = some (asE ab kb now av lv' E))
    (hok : ∀ h' n, numOf A[j] = some n → St (ab :: vblk lv) h h' M → K (.int .i64 n) h') (hbad : ∀ h', numOf A[j] = none → St (ab :: vblk lv) h h' M → Qp (stopE wNum) h') : CallsH Tryz.prog 66 [ptr ab, .int .i64 j] h1 (after K Qp) :=
  call_out (numA_calls (x.out w i hi').1 hl hj hz) (fun v h' hr => by obtain ⟨n, h2, rfl, c⟩ := hr; exact hok h' n h2 (w.ext c)) (fun v h' hr => by obtain ⟨h2, rfl, c⟩ := hr; exact hbad h' h2 (w.ext c))

theorem plus_go (ha : In64 k) (hb : In64 n) (hok : okSum k n → K (.int .i64 (k + n)) h) (hbad : ¬ okSum k n → Qp (stopE wOver) h) : CallsH Tryz.prog 102 [.int .i64 k, .int .i64 n] h (after K Qp) :=
  call_out (plus_calls ha hb) (fun v h' hr => by obtain ⟨h2, rfl, e⟩ := hr; have e := e.symm; subst e; exact hok h2) (fun v h' hr => by obtain ⟨h2, rfl, e⟩ := hr; have e := e.symm; subst e; exact hbad h2)
end

theorem mono_at {c : SCode} {Q : Post} {ds : List Deferred} (hq : Mono Q) : MonoE (fun σ h => swp Tryz.prog c Q σ ds h) := fun σ σ' h hs hh => swp_sub c Q σ σ' ds h hq hs hh
theorem mono_seq {c : SCode} {Q : Post} (hq : Mono Q) : Mono (thenQ (swp Tryz.prog c Q) Q) := mono_thenQ (fun σ σ' ds h hs hh => swp_sub c Q σ σ' ds h hq hs hh) hq
theorem mono_round {ι : Type} {ds : List Deferred} {E : ι → List (Nat × Value)} {I : ι → Heap → Prop} {p : ι → Prop} {Q : Post} (hq : Mono Q) : Mono (thenQ (fun σ' ds' h' => ds' = ds ∧ ∃ i', SubL σ' (E i') ∧ I i' h' ∧ p i') Q) :=
  mono_thenQ (fun _ _ _ _ hs hh => mono_loop _ _ _ _ hs hh) hq
theorem AS.getc {h0 h h1 : Heap} {ab kb sb mb c : Nat} {now : Int} {av lv : Value} {A : List ByteArray} {L : List Eff} {m : List KI} {S : Space} {M : List En} (x : AS h0 h ab kb now av A lv L) (kr0 : KR h0 kb sb mb c m) (hs : Sorted m S)
    (w : St (ab :: vblk lv) h h1 M) (key : ByteArray) : GetC h1 kb key now (getS S key now) := fun hc => KGetF_calls key now (kr0.ext ((x.base w).nil hc)) hs

theorem one_arg {α : Type} {A : List α} (h : (1 : Int) ≤ A.length ∧ (A.length : Int) ≤ 1) : ∃ x, A = [x] := by
  match A, h with
  | [], h => simp at h
  | [x], _ => exact ⟨x, rfl⟩
  | x :: y :: l, h => simp at h; omega
def arg1 (f : ByteArray → Except ByteArray (Rep × List Eff)) : List ByteArray → Except ByteArray (Rep × List Eff)
  | [x] => f x
  | _ => .error wArgs
theorem arg1_bad {f : ByteArray → Except ByteArray (Rep × List Eff)} {A : List ByteArray} (h : ¬ ((1 : Int) ≤ A.length ∧ (A.length : Int) ≤ 1)) : arg1 f A = .error wArgs := by
  match A, h with
  | [], _ => rfl
  | [x], h => exact absurd ⟨by simp, by simp⟩ h
  | x :: y :: l, _ => rfl
end Go.Proofs.YtgmkldaonkbjgaaGreatDoor
namespace Go.Proofs.YtgmkldaonkbjgaaGreatDoor
open Go Go.Sx Go.Proofs.YtgmkldaonkbjgaaGreatDoor.C Go.Num

end Go.Proofs.YtgmkldaonkbjgaaGreatDoor
namespace Go.Proofs.YtgmkldaonkbjgaaGreatDoor
open Go Go.Sx Go.Proofs.YtgmkldaonkbjgaaGreatDoor.C Go.Num

end Go.Proofs.YtgmkldaonkbjgaaGreatDoor
