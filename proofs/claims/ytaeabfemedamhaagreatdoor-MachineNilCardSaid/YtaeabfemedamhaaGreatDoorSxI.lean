/-
  What an operation reads; that the quiet ones may as well come later.
-/
import Derived.Test.YtaeabfemedamhaaGreatDoorSxHB
namespace Go.Sx
open Go

variable {P : Program} {σ σ' : Env} {h : Heap} {K K' : Value → Heap → Prop} {Qp : List PanicEntry → Heap → Prop}

theorem CallsH.mono {f : Nat} {args : List Value} {R R' : Ending → Heap → Prop} (hc : CallsH P f args h R) (hr : ∀ e h', R e h' → R' e h') : CallsH P f args h R' :=
  ⟨hc.1, fun w hw => (hc.2 w hw).mono fun _ _ ⟨a, b⟩ => ⟨hr _ _ a, b⟩⟩

theorem YieldH.mono {l : Nat} {args : List Value} {R R' : Ending → Heap → Prop} (hy : YieldH P l args h R) (hr : ∀ e h', R e h' → R' e h') : YieldH P l args h R' := by
  intro w hw
  obtain ⟨fn, tmps, as, bo, h1, h2⟩ := hy w hw
  exact ⟨fn, tmps, as, bo, h1, h2.mono fun e w' ⟨a, b⟩ => ⟨hr _ _ a, b⟩⟩

theorem evs_congr : ∀ (xs : List Operand), (∀ x ∈ xs, ev σ x = ev σ' x) → evs σ xs = evs σ' xs
  | [], _ => rfl
  | x :: xs, hx => by
    simp only [evs]
    rw [hx x (by simp), evs_congr xs fun y hy => hx y (by simp [hy])]

theorem bndOf_congr {x : Option Operand} {d : Nat} (hx : ∀ y ∈ opt x, ev σ y = ev σ' y) : bndOf σ x d = bndOf σ' x d := by
  cases x with
  | none => rfl
  | some y => simp only [bndOf]; rw [hx y (by simp [opt])]

theorem sop_congr (s : SOp) (hx : ∀ x ∈ s.reads, ev σ x = ev σ' x) : sop P σ h K Qp s = sop P σ' h K Qp s := by
  cases s
  case build z ps xs => simp only [sop]; rw [evs_congr xs hx]
  case bslice z n ps xs => simp only [sop]; rw [evs_congr xs hx]
  case call f xs => simp only [sop]; rw [evs_congr xs hx]
  case callq f xs => simp only [sop]; rw [evs_congr xs hx]
  case callx f xs => simp only [sop]; rw [evs_congr xs hx]
  case callv x xs => simp only [sop]; rw [evs_congr xs fun y hy => hx y (by simp [SOp.reads, hy]), hx x (by simp [SOp.reads])]
  case callvq x xs => simp only [sop]; rw [evs_congr xs fun y hy => hx y (by simp [SOp.reads, hy]), hx x (by simp [SOp.reads])]
  case fn f a c => simp only [sop]; rw [evs_congr a fun y hy => hx y (by simp [SOp.reads, hy]), evs_congr c fun y hy => hx y (by simp [SOp.reads, hy])]
  case slc n x lo hi =>
    simp only [sop]
    rw [hx x (by simp [SOp.reads]), bndOf_congr (x := lo) fun y hy => hx y (by simp [SOp.reads, hy])]
    have hh : ∀ d, bndOf σ hi d = bndOf σ' hi d := fun d => bndOf_congr fun y hy => hx y (by simp [SOp.reads, hy])
    simp only [hh]
  case slc3 n x lo hi mx =>
    simp only [sop]
    rw [hx x (by simp [SOp.reads]), bndOf_congr (x := lo) fun y hy => hx y (by simp [SOp.reads, hy]), bndOf_congr (x := some hi) fun y hy => hx y (by simp only [opt, List.mem_singleton] at hy; subst hy; simp [SOp.reads]),
      bndOf_congr (x := some mx) fun y hy => hx y (by simp only [opt, List.mem_singleton] at hy; subst hy; simp [SOp.reads])]
  case slp m n x lo hi =>
    simp only [sop]
    rw [hx x (by simp [SOp.reads]), bndOf_congr (x := lo) fun y hy => hx y (by simp [SOp.reads, hy])]
    have hh : ∀ d, bndOf σ hi d = bndOf σ' hi d := fun d => bndOf_congr fun y hy => hx y (by simp [SOp.reads, hy])
    simp only [hh]
  case sls x lo hi =>
    simp only [sop]
    rw [hx x (by simp [SOp.reads]), bndOf_congr (x := lo) fun y hy => hx y (by simp [SOp.reads, hy])]
    have hh : ∀ d, bndOf σ hi d = bndOf σ' hi d := fun d => bndOf_congr fun y hy => hx y (by simp [SOp.reads, hy])
    simp only [hh]
  all_goals first
    | rfl
    | (simp only [SOp.reads, List.mem_cons, List.not_mem_nil, or_false, forall_eq_or_imp, forall_eq] at hx; simp only [sop, hx])

theorem Ext.refl (h : Heap) : Ext h h := fun _ _ => rfl

theorem cell_ext {h h' : Heap} (he : Ext h h') {b o : Nat} {v : Value} (hc : cell h b o = some v) : cell h' b o = some v := by
  unfold cell at hc ⊢
  cases hb : h[b]? with
  | none => rw [hb] at hc; cases hc
  | some x =>
    have hlt := (Array.getElem?_eq_some_iff.1 hb).1
    rw [he b hlt, hb]; rw [hb] at hc; exact hc

theorem Cells.ext {h h' : Heap} (he : Ext h h') {b o : Nat} {vs : List Value} (hc : Cells h b o vs) : Cells h' b o vs := fun i v hv => cell_ext he (hc i v hv)

theorem Src.ofExt {h h' : Heap} (he : Ext h h') {a : Option Addr} {n : Nat} {xs : List Value} (hs : Src h a n xs) : Src h' a n xs := by
  unfold Src at hs ⊢
  split at hs
  · exact hs
  · exact Cells.ext he hs
  · exact hs

theorem Src0.ofExt {h h' : Heap} (he : Ext h h') {a : Option Addr} {n : Nat} {xs : List Value} (hs : Src0 h a n xs) : Src0 h' a n xs := by
  unfold Src0 at hs ⊢
  split at hs
  · exact hs
  · exact Cells.ext he hs
  · exact hs.elim

theorem get_ext {h h' : Heap} (he : Ext h h') {b : Nat} {x : Obj} (hb : h[b]? = some x) : h'[b]? = some x := by
  rw [he b (Array.getElem?_eq_some_iff.1 hb).1, hb]

theorem Blk.ext {h h' : Heap} (he : Ext h h') {b : Nat} {l : List Value} (hb : Blk h b l) : Blk h' b l := let ⟨e, x⟩ := hb; ⟨e, get_ext he x⟩
theorem MapB.ext {h h' : Heap} (he : Ext h h') {b c : Nat} {es : List MapEntry} (hb : MapB h b es c) : MapB h' b es c := get_ext he hb

/-- What a quiet operation gives, now and later. -/
theorem quiet (s : SOp) (hq : cls s ≤ 1) (hs : sop P σ h K Qp s) :
    ∃ v, K v h ∧ ∀ h', (cls s = 0 ∨ Ext h h') → ∀ (K' : Value → Heap → Prop) (Qp' : List PanicEntry → Heap → Prop), K' v h' → sop P σ h' K' Qp' s := by
  cases s <;> simp only [cls] at hq <;> first | (exfalso; omega) | skip
  case slc n x lo hi =>
    simp only [sop] at hs ⊢
    split at hs
    · rename_i a n' c hx
      split at hs
      · rename_i l m hl hm
        obtain ⟨h0, h1, h2, hs⟩ := hs
        simp only [slcR] at hs ⊢
        split at hs
        · exact ⟨_, hs, fun h' _ K' Qp' hk => ⟨h0, h1, h2, hk⟩⟩
        · rename_i b o
          refine ⟨_, hs (if c = l.toNat then o else o + l.toNat * n) (fun hlt => if_neg (by omega)) (fun he => if_pos (by omega)), fun h' _ K' Qp' hk => ?_⟩
          refine ⟨h0, h1, h2, fun o' ho1 ho2 => ?_⟩
          have : o' = (if c = l.toNat then o else o + l.toNat * n) := by
            split
            · exact ho2 (by omega)
            · exact ho1 (by omega)
          rw [this]; exact hk
        · obtain ⟨hl0, hs⟩ := hs
          exact ⟨_, hs, fun h' _ K' Qp' hk => ⟨h0, h1, h2, hl0, hk⟩⟩
      · exact hs.elim
    · exact hs.elim
  case slc3 n x lo hi mx =>
    simp only [sop] at hs ⊢
    split at hs
    · rename_i a n' c hx
      split at hs
      · rename_i l m k hl hm hk
        obtain ⟨h0, h1, h2, h3, hs⟩ := hs
        simp only [slcR] at hs ⊢
        split at hs
        · exact ⟨_, hs, fun h' _ K' Qp' hk => ⟨h0, h1, h2, h3, hk⟩⟩
        · rename_i b o
          refine ⟨_, hs (if k.toNat = l.toNat then o else o + l.toNat * n) (fun hlt => if_neg (by omega)) (fun he => if_pos (by omega)), fun h' _ K' Qp' hk => ?_⟩
          refine ⟨h0, h1, h2, h3, fun o' ho1 ho2 => ?_⟩
          have : o' = (if k.toNat = l.toNat then o else o + l.toNat * n) := by
            split
            · exact ho2 (by omega)
            · exact ho1 (by omega)
          rw [this]; exact hk
        · obtain ⟨hl0, hs⟩ := hs
          exact ⟨_, hs, fun h' _ K' Qp' hk => ⟨h0, h1, h2, h3, hl0, hk⟩⟩
      · exact hs.elim
    · exact hs.elim
  case slp tn n x lo hi =>
    simp only [sop] at hs ⊢
    split at hs
    · rename_i b o hx
      split at hs
      · rename_i l m hl hm
        obtain ⟨h0, h1, h2, hs⟩ := hs
        simp only [slcR] at hs ⊢
        refine ⟨_, hs (if tn = l.toNat then o else o + l.toNat * n) (fun hlt => if_neg (by omega)) (fun he => if_pos (by omega)), fun h' _ K' Qp' hk => ?_⟩
        refine ⟨h0, h1, h2, fun o' ho1 ho2 => ?_⟩
        have : o' = (if tn = l.toNat then o else o + l.toNat * n) := by
          split
          · exact ho2 (by omega)
          · exact ho1 (by omega)
        rw [this]; exact hk
      · exact hs.elim
    · exact hs.elim
  case ixv tn n x i =>
    simp only [sop] at hs ⊢
    split at hs
    · rename_i cs k j hx hi
      obtain ⟨v, h0, h1, h2, hs⟩ := hs
      exact ⟨_, hs, fun h' _ K' Qp' hk => by exact ⟨v, h0, h1, h2, hk⟩⟩
    · exact hs.elim
  case tas t z ok x =>
    simp only [sop] at hs ⊢
    split at hs
    · rename_i hx
      exact ⟨_, hs.2, fun h' _ K' Qp' hk => by exact ⟨hs.1, hk⟩⟩
    · rename_i u v hx
      by_cases hut : u = t
      · exact ⟨_, hs.1 hut, fun h' _ K' Qp' hk => by exact ⟨fun _ => hk, fun hn => absurd hut hn⟩⟩
      · exact ⟨_, (hs.2 hut).2, fun h' _ K' Qp' hk => by exact ⟨fun hn => absurd hn hut, fun _ => ⟨(hs.2 hut).1, hk⟩⟩⟩
    · exact hs.elim
  case eqi neg x y =>
    simp only [sop] at hs ⊢
    split at hs
    · exact ⟨_, hs, fun h' _ K' Qp' hk => by exact hk⟩
    · exact ⟨_, hs, fun h' _ K' Qp' hk => by exact hk⟩
    · rename_i t v u w hx hy
      by_cases hut : t = u
      · obtain ⟨kd, h1, h2, h3, h4, h5⟩ := hs.2 hut
        by_cases hv : v = w
        · exact ⟨_, h4 hv, fun h' _ K' Qp' hk => by exact ⟨fun hn => absurd hut hn, fun _ => ⟨kd, h1, h2, h3, fun _ => hk, fun hn => absurd hv hn⟩⟩⟩
        · exact ⟨_, h5 hv, fun h' _ K' Qp' hk => by exact ⟨fun hn => absurd hut hn, fun _ => ⟨kd, h1, h2, h3, fun hn => absurd hn hv, fun _ => hk⟩⟩⟩
      · exact ⟨_, hs.1 hut, fun h' _ K' Qp' hk => by exact ⟨fun _ => hk, fun hn => absurd hn hut⟩⟩
    · exact hs.elim
  case p2u x =>
    simp only [sop] at hs ⊢
    split at hs
    · rename_i b o hx
      obtain ⟨l, h1, h2, hs⟩ := hs
      refine ⟨_, hs, fun h' he K' Qp' hk => ?_⟩
      have he : Ext h h' := he.resolve_left (by simp [cls])
      obtain ⟨e, k, h3, h4⟩ := h1
      exact ⟨l, ⟨e, k, get_ext he h3, h4⟩, h2, hk⟩
    · exact hs.elim
  case u2p t n x =>
    simp only [sop] at hs ⊢
    split at hs
    · rename_i b hx
      obtain ⟨l, h1, h2, h5, hs⟩ := hs
      refine ⟨_, hs, fun h' he K' Qp' hk => ?_⟩
      have he : Ext h h' := he.resolve_left (by simp [cls])
      obtain ⟨e, k, h3, h4⟩ := h1
      obtain ⟨c, k', h6⟩ := h5
      exact ⟨l, ⟨e, k, get_ext he h3, h4⟩, h2, ⟨c, k', get_ext he h6⟩, hk⟩
    · exact hs.elim
  case sld x =>
    simp only [sop] at hs ⊢
    split at hs
    · exact ⟨_, hs, fun h' _ K' Qp' hk => by exact hk⟩
    · exact ⟨_, hs.2, fun h' _ K' Qp' hk => by exact ⟨hs.1, hk⟩⟩
    · exact hs.elim
  case ent x =>
    simp only [sop] at hs ⊢
    split at hs
    · obtain ⟨m, since, seen, last, es, b, e, h1, h2, h3, h4, hs⟩ := hs
      refine ⟨_, hs, fun h' he K' Qp' hk => ?_⟩
      have he : Ext h h' := he.resolve_left (by simp [cls])
      exact ⟨m, since, seen, last, es, b, e, get_ext he h1, h2.ext he, h3, h4, hk⟩
    · exact hs.elim
  case eqp neg x y =>
    simp only [sop] at hs ⊢
    split at hs
    · rename_i hx hy
      exact ⟨_, hs, fun h' _ K' Qp' hk => by exact hk⟩
    · rename_i a hx hy
      exact ⟨_, hs, fun h' _ K' Qp' hk => by exact hk⟩
    · rename_i a hx hy
      exact ⟨_, hs, fun h' _ K' Qp' hk => by exact hk⟩
    · rename_i b o b' o' hx hy
      obtain ⟨⟨l, hl, hl0⟩, ⟨l', hl', hl0'⟩, h1, h2⟩ := hs
      by_cases hb : b = b' ∧ o = o'
      · obtain ⟨rfl, rfl⟩ := hb
        refine ⟨_, h1 rfl rfl, fun h' he K' Qp' hk => ?_⟩
        have he : Ext h h' := he.resolve_left (by simp [cls])
        exact ⟨⟨l, hl.ext he, hl0⟩, ⟨l', hl'.ext he, hl0'⟩, fun _ _ => hk, fun hn => absurd ⟨rfl, rfl⟩ hn⟩
      · refine ⟨_, h2 hb, fun h' he K' Qp' hk => ?_⟩
        have he : Ext h h' := he.resolve_left (by simp [cls])
        exact ⟨⟨l, hl.ext he, hl0⟩, ⟨l', hl'.ext he, hl0'⟩, fun e1 e2 => absurd ⟨e1, e2⟩ hb, fun _ => hk⟩
    · exact hs.elim
  case look kd z ok m k =>
    simp only [sop] at hs ⊢
    split at hs
    · rename_i kv hm hk
      exact ⟨_, hs.2, fun h' _ K' Qp' hk' => by exact ⟨hs.1, hk'⟩⟩
    · rename_i r kv hm hk
      obtain ⟨hf, es, c, hb, hes, hs⟩ := hs
      split at hs
      · rename_i i v hv
        refine ⟨_, hs, fun h' he K' Qp' hk' => ?_⟩
        have he : Ext h h' := he.resolve_left (by simp [cls])
        refine ⟨hf, es, c, hb.ext he, hes, ?_⟩
        simp only [hv]; exact hk'
      · rename_i hv
        refine ⟨_, hs, fun h' he K' Qp' hk' => ?_⟩
        have he : Ext h h' := he.resolve_left (by simp [cls])
        refine ⟨hf, es, c, hb.ext he, hes, ?_⟩
        simp only [hv]; exact hk'
    · exact hs.elim
  case lenm x =>
    simp only [sop] at hs ⊢
    split at hs
    · rename_i hx
      exact ⟨_, hs, fun h' _ K' Qp' hk => by exact hk⟩
    · rename_i r hx
      obtain ⟨es, c, hb, hs⟩ := hs
      refine ⟨_, hs, fun h' he K' Qp' hk => ?_⟩
      have he : Ext h h' := he.resolve_left (by simp [cls])
      exact ⟨es, c, hb.ext he, hk⟩
    · exact hs.elim
  case ld1 x =>
    simp only [sop] at hs ⊢
    split at hs
    · rename_i b o hx
      obtain ⟨v, hc, hs⟩ := hs
      refine ⟨v, hs, fun h' he K' Qp' hk => ?_⟩
      have he : Ext h h' := he.resolve_left (by simp [cls])
      exact ⟨v, cell_ext he hc, hk⟩
    · exact hs.elim
  case bstr x =>
    simp only [sop] at hs ⊢
    split at hs
    · rename_i a n c hx
      obtain ⟨bs, hn, hc, hs⟩ := hs
      refine ⟨_, hs, fun h' he K' Qp' hk => ?_⟩
      have he : Ext h h' := he.resolve_left (by simp [cls])
      exact ⟨bs, hn, Src0.ofExt he hc, hk⟩
    · exact hs.elim
  case ldn n x =>
    simp only [sop] at hs ⊢
    split at hs
    · rename_i b o hx
      obtain ⟨v, hn, hc, hs⟩ := hs
      refine ⟨_, hs, fun h' he K' Qp' hk => ?_⟩
      have he : Ext h h' := he.resolve_left (by simp [cls])
      exact ⟨v, hn, hc.ext he, hk⟩
    · exact hs.elim
  case cmpb neg x y =>
    simp only [sop] at hs ⊢
    split at hs
    · rename_i a b hx hy
      by_cases hab : a = b
      · exact ⟨_, hs.1 hab, fun h' _ K' Qp' hk => by exact ⟨fun _ => hk, fun hn => absurd hab hn⟩⟩
      · exact ⟨_, hs.2 hab, fun h' _ K' Qp' hk => by exact ⟨fun he => absurd he hab, fun _ => hk⟩⟩
    · exact hs.elim
  case eqa neg ks x y =>
    simp only [sop] at hs ⊢
    split at hs
    · rename_i a b hx hy
      obtain ⟨h1, h2, hs⟩ := hs
      by_cases hab : a.toList = b.toList
      · exact ⟨_, hs.1 hab, fun h' _ K' Qp' hk => by exact ⟨h1, h2, fun _ => hk, fun hn => absurd hab hn⟩⟩
      · exact ⟨_, hs.2 hab, fun h' _ K' Qp' hk => by exact ⟨h1, h2, fun he => absurd he hab, fun _ => hk⟩⟩
    · exact hs.elim
  case cmp op x y =>
    have two : ∀ p : Prop, either p K h → ∃ t, K (.bool t) h ∧ ∀ h' (K' : Value → Heap → Prop), K' (.bool t) h' → either p K' h' := by
      intro p hp
      by_cases hc : p
      · exact ⟨true, hp.1 hc, fun h' K' hk => ⟨fun _ => hk, fun hn => absurd hc hn⟩⟩
      · exact ⟨false, hp.2 hc, fun h' K' hk => ⟨fun he => absurd he hc, fun _ => hk⟩⟩
    simp only [sop] at hs ⊢
    split at hs <;> first
      | exact hs.elim
      | (obtain ⟨hk, hs⟩ := hs; obtain ⟨t, ht, hall⟩ := two _ hs; exact ⟨_, ht, fun h' _ K' Qp' hk' => ⟨hk, hall h' K' hk'⟩⟩)
      | (obtain ⟨t, ht, hall⟩ := two _ hs; exact ⟨_, ht, fun h' _ K' Qp' hk' => hall h' K' hk'⟩)
  case ixc x i =>
    simp only [sop] at hs ⊢
    split at hs
    · rename_i s k j hx hi
      obtain ⟨c, h0, h1, hs⟩ := hs
      exact ⟨_, hs, fun h' _ K' Qp' hk => by exact ⟨c, h0, h1, hk⟩⟩
    · exact hs.elim
  all_goals
    simp only [sop] at hs ⊢
    (repeat' split at hs) <;> first
      | exact hs.elim
      | (refine ⟨_, hs, fun h' _ K' Qp' hk => ?_⟩; exact hk)
      | (obtain ⟨h1, hs⟩ := hs; refine ⟨_, hs, fun h' _ K' Qp' hk => ?_⟩; first | exact hk | exact ⟨h1, hk⟩ | exact ⟨rfl, hk⟩ | exact ⟨trivial, hk⟩)
      | (obtain ⟨h1, h2, hs⟩ := hs; refine ⟨_, hs, fun h' _ K' Qp' hk => ?_⟩; first | exact hk | exact ⟨h1, h2, hk⟩)
      | (obtain ⟨h1, h2, h3, hs⟩ := hs; refine ⟨_, hs, fun h' _ K' Qp' hk => ?_⟩; first | exact hk | exact ⟨h1, h2, h3, hk⟩)
      | (refine ⟨_, hs _ rfl, fun h' _ K' Qp' hk => ?_⟩; intro z hz; rw [hz]; exact hk)
      | (obtain ⟨h1, hs⟩ := hs; refine ⟨_, hs _ rfl, fun h' _ K' Qp' hk => ?_⟩; first | exact ⟨h1, fun z hz => by rw [hz]; exact hk⟩ | exact ⟨rfl, fun z hz => by rw [hz]; exact hk⟩ | exact ⟨trivial, fun z hz => by rw [hz]; exact hk⟩)
      | (obtain ⟨h1, h2, hs⟩ := hs; refine ⟨_, hs _ rfl, fun h' _ K' Qp' hk => ?_⟩; exact ⟨h1, h2, fun z hz => by rw [hz]; exact hk⟩)
      | skip

theorem wrP.mono {K K' : Heap → Prop} {a : Option Addr} {ys : List Value} (hw : wrP h K a ys) (hk : ∀ h', K h' → K' h') : wrP h K' a ys := by
  refine ⟨fun e => hk _ (hw.1 e), fun hne => ?_⟩
  have := hw.2 hne
  split at this
  · obtain ⟨l, x, y, z, u⟩ := this
    exact ⟨l, x, y, z, fun h' hp => hk _ (u h' hp)⟩
  · exact this.elim

theorem wrB.mono {K K' : Heap → Prop} {a : Option Addr} {ys : List Value} (hw : wrB h K a ys) (hk : ∀ h', K h' → K' h') : wrB h K' a ys := by
  refine ⟨fun e => hk _ (hw.1 e), fun hne => ?_⟩
  have := hw.2 hne
  split at this
  · obtain ⟨l, x, y, z, u⟩ := this
    exact ⟨l, x, y, z, fun h' hp => hk _ (u h' hp)⟩
  · exact this.elim

theorem sop_mono (s : SOp) (hs : sop P σ h K Qp s) (hk : ∀ v h', K v h' → K' v h') : sop P σ h K' Qp s := by
  by_cases hq : cls s ≤ 1
  · obtain ⟨v, hv, hall⟩ := quiet s hq hs
    exact hall h (.inr (Ext.refl h)) K' Qp (hk _ _ hv)
  · cases s <;> first | (simp [cls] at hq; done) | skip
    case app size bytes z x y =>
      simp only [sop] at hs ⊢
      split at hs
      · obtain ⟨xs, ys, h1, h2, h3, h4, h5, h6, h7⟩ := hs
        refine ⟨xs, ys, h1, h2, h3, h4, h5, fun hle => ?_, fun hlt => ?_⟩
        · have h6 := h6 hle
          unfold appIn at h6 ⊢
          split at h6
          · exact hk _ _ h6
          · obtain ⟨l, a, b, c⟩ := h6
            exact ⟨l, a, b, fun h' hp => hk _ _ (c h' hp)⟩
          · exact h6.elim
        · obtain ⟨a, b⟩ := h7 hlt
          exact ⟨a, fun c' b' h' x y => hk _ _ (b c' b' h' x y)⟩
      · exact hs.elim
    case cpy size x y =>
      simp only [sop] at hs ⊢
      split at hs
      · obtain ⟨ys, h1, h2, h3⟩ := hs
        exact ⟨ys, h1, h2, h3.mono (hk _)⟩
      · exact hs.elim
    case clr z x =>
      simp only [sop] at hs ⊢
      split at hs
      · exact wrP.mono hs (hk _)
      · exact hs.elim
    case appz size bytes z x y =>
      simp only [sop] at hs ⊢
      split at hs
      · obtain ⟨h0, h01, xs, h1, h2, h3, h4, h5⟩ := hs
        exact ⟨h0, h01, xs, h1, h2, h3, h4, fun c' b h' x y => hk _ _ (h5 c' b h' x y)⟩
      · exact hs.elim
    case pan x =>
      simp only [sop] at hs ⊢
      split at hs
      · exact hs
      · exact hs.elim
    case cvm x =>
      simp only [sop] at hs ⊢
      split at hs
      · obtain ⟨l, h1, h2⟩ := hs
        exact ⟨l, h1, fun h' hp => hk _ _ (h2 h' hp)⟩
      · exact hs.elim
    case clrm x =>
      simp only [sop] at hs ⊢
      split at hs
      · exact hk _ _ hs
      · obtain ⟨es, c, h1, h2⟩ := hs
        exact ⟨es, c, h1, fun h' hp => hk _ _ (h2 h' hp)⟩
      · exact hs.elim
    case byts x =>
      simp only [sop] at hs ⊢
      split at hs
      · exact fun c b h' h1 h2 => hk _ _ (hs c b h' h1 h2)
      · exact hs.elim
    case newT t z =>
      simp only [sop] at hs ⊢
      exact fun b h' h1 h2 => hk _ _ (hs b h' h1 h2)
    case ust e x n =>
      simp only [sop] at hs ⊢
      split at hs
      · refine ⟨fun h0 => hk _ _ (hs.1 h0), fun h0 => ?_⟩
        obtain ⟨b, l, tot, a1, a2, a3, a4, a5, a6, a7, a8⟩ := hs.2 h0
        exact ⟨b, l, tot, a1, a2, a3, a4, a5, a6, a7, fun h' x y => hk _ _ (a8 h' x y)⟩
      · exact hs.elim
    case cpyb x y =>
      simp only [sop] at hs ⊢
      split at hs
      · split at hs
        · obtain ⟨ys, h1, h2, h3⟩ := hs
          exact ⟨ys, h1, h2, h3.mono (hk _)⟩
        · exact hs.elim
      · exact hs.elim
    case appb e x y =>
      simp only [sop] at hs ⊢
      split at hs
      · split at hs
        · obtain ⟨xs, ys, h1, h2, h3, h4, h5, h6, h7⟩ := hs
          refine ⟨xs, ys, h1, h2, h3, h4, h5, fun hle => ?_, fun hlt => ?_⟩
          · have h6 := h6 hle
            split at h6
            · exact hk _ _ h6
            · obtain ⟨l, a, b, c⟩ := h6
              exact ⟨l, a, b, fun h' hp => hk _ _ (c h' hp)⟩
            · exact h6.elim
          · obtain ⟨a, b⟩ := h7 hlt
            exact ⟨a, fun c' b' h' x y z => hk _ _ (b c' b' h' x y z)⟩
        · exact hs.elim
      · exact hs.elim
    case rng x =>
      simp only [sop] at hs ⊢
      split at hs
      · exact fun b h' hg => hk _ _ (hs b h' hg)
      · obtain ⟨es, c, h1, h2⟩ := hs
        exact ⟨es, c, h1, fun b h' hg => hk _ _ (h2 b h' hg)⟩
      · exact hs.elim
    case nxts x =>
      simp only [sop] at hs ⊢
      split at hs
      · obtain ⟨s, pos, a1, a2, a3⟩ := hs
        exact ⟨s, pos, a1, fun a => hk _ _ (a2 a), fun a h' b => hk _ _ (a3 a h' b)⟩
      · exact hs.elim
    case nxt x =>
      simp only [sop] at hs ⊢
      split at hs
      · rcases hs with ⟨since, seen, last, h1, h2⟩ | ⟨m, since, seen, last, es, clock, h1, h2, h3, h4, h5, h6⟩
        · exact .inl ⟨since, seen, last, h1, hk _ _ h2⟩
        · exact .inr ⟨m, since, seen, last, es, clock, h1, h2, h3, h4, fun ha => hk _ _ (h5 ha), fun e he hs h' hp => hk _ _ (h6 e he hs h' hp)⟩
      · exact hs.elim
    case appn size bytes z y =>
      simp only [sop] at hs ⊢
      split at hs
      · obtain ⟨xs, ys, h1, h2, h3, h4, h5, h6, h7⟩ := hs
        exact ⟨xs, ys, h1, h2, h3, h4, h5, fun hle => hk _ _ (h6 hle), fun hlt => ⟨(h7 hlt).1, fun c' b' h' x y => hk _ _ ((h7 hlt).2 c' b' h' x y)⟩⟩
      · exact hs.elim
    case callx f xs =>
      simp only [sop] at hs ⊢
      split at hs
      · exact fun w hw => let ⟨v, w', h1, h2, h3⟩ := hs w hw; ⟨v, w', h1, hk _ _ h2, h3⟩
      · exact hs.elim
    case mup kd m k v =>
      simp only [sop] at hs ⊢
      split at hs
      · obtain ⟨h1, es, c, h2, h3, h4⟩ := hs
        refine ⟨h1, es, c, h2, h3, ?_⟩
        split at h4
        · rename_i hv; exact fun h' hp => hk _ _ (h4 h' hp)
        · rename_i hv; exact fun h' hp => hk _ _ (h4 h' hp)
      · exact hs.elim
    case mdel kd m k =>
      simp only [sop] at hs ⊢
      split at hs
      · exact ⟨hs.1, hk _ _ hs.2⟩
      · obtain ⟨h1, es, c, h2, h3, h4⟩ := hs
        refine ⟨h1, es, c, h2, h3, ?_⟩
        split at h4
        · rename_i hv; exact fun h' hp => hk _ _ (h4 h' hp)
        · rename_i hv; exact fun h' hp => hk _ _ (h4 h' hp)
      · exact hs.elim
    case call f xs =>
      simp only [sop] at hs ⊢
      split at hs
      · exact hs.mono fun e h' he => by cases e <;> first | exact hk _ _ he | exact he
      · exact hs.elim
    case callv x xs =>
      simp only [sop] at hs ⊢
      split at hs
      · exact hs.mono fun e h' he => by cases e <;> first | exact hk _ _ he | exact he
      · exact hs.mono fun e h' he => by cases e <;> first | exact hk _ _ he | exact he
      · exact hs.elim
    case callq f xs =>
      simp only [sop] at hs ⊢
      split at hs
      · exact hs.mono fun e h' he => ⟨he.1, by cases e <;> first | exact hk _ _ he.2 | exact he.2⟩
      · exact hs.elim
    case callvq x xs =>
      simp only [sop] at hs ⊢
      split at hs
      · exact hs.mono fun e h' he => ⟨he.1, by cases e <;> first | exact hk _ _ he.2 | exact he.2⟩
      · exact hs.elim
    all_goals
      simp only [sop] at hs ⊢
      (repeat' split at hs) <;> first
        | exact hs.elim
        | exact fun b h' hg => hk _ _ (hs b h' hg)
        | (obtain ⟨l, a, b, c, d, e⟩ := hs; exact ⟨l, a, b, c, d, fun h' hp => hk _ _ (e h' hp)⟩)
        | (obtain ⟨a, b, c, d, e⟩ := hs; exact ⟨a, b, c, d, fun b' h' hp => hk _ _ (e b' h' hp)⟩)

/-- What is asked of panics may be less. -/
theorem sop_qp {Qp' : List PanicEntry → Heap → Prop} (s : SOp) (hs : sop P σ h K Qp s) (hq : ∀ ch h, Qp ch h → Qp' ch h) : sop P σ h K Qp' s := by
  by_cases hc : cls s ≤ 1
  · obtain ⟨v, hv, hall⟩ := quiet s hc hs
    exact hall h (.inr fun _ _ => rfl) K Qp' hv
  · cases s <;> first | (simp [cls] at hc; done) | exact hs | skip
    case pan x =>
      simp only [sop] at hs ⊢
      split at hs
      · exact hq _ _ hs
      · exact hs.elim
    case call f xs =>
      simp only [sop] at hs ⊢
      split at hs
      · exact hs.mono fun e h' he => by cases e <;> first | exact hq _ _ he | exact he
      · exact hs.elim
    case callv x xs =>
      simp only [sop] at hs ⊢
      split at hs
      · exact hs.mono fun e h' he => by cases e <;> first | exact hq _ _ he | exact he
      · exact hs.mono fun e h' he => by cases e <;> first | exact hq _ _ he | exact he
      · exact hs.elim
    case callq f xs =>
      simp only [sop] at hs ⊢
      split at hs
      · exact hs.mono fun e h' he => ⟨he.1, by cases e <;> first | exact hq _ _ he.2 | exact he.2⟩
      · exact hs.elim
    case callvq x xs =>
      simp only [sop] at hs ⊢
      split at hs
      · exact hs.mono fun e h' he => ⟨he.1, by cases e <;> first | exact hq _ _ he.2 | exact he.2⟩
      · exact hs.elim

theorem GrowW.ext {h h' : Heap} {b : Nat} {l : List Value} (hg : GrowW h h' b l) : Ext h h' := hg.old
theorem Grow.ext {h h' : Heap} {b : Nat} {l : List Value} (hg : Grow h h' b l) : Ext h h' := hg.old
theorem GrowO.ext {h h' : Heap} {b : Nat} {o : Obj} (hg : GrowO h h' b o) : Ext h h' := hg.old

/-- What makes memory alone leaves all that was there. -/
theorem sop_ext (s : SOp) (hq : cls s ≤ 2) (hs : sop P σ h K Qp s) : sop P σ h (fun v h' => K v h' ∧ Ext h h') Qp s := by
  by_cases hq1 : cls s ≤ 1
  · obtain ⟨v, hv, hall⟩ := quiet s hq1 hs
    exact hall h (.inr (Ext.refl h)) _ Qp ⟨hv, Ext.refl h⟩
  · cases s <;> first | (simp [cls] at hq1; done) | (simp [cls] at hq; done) | skip
    case callq f xs =>
      simp only [sop] at hs ⊢
      split at hs
      · exact hs.mono fun e h' he => ⟨he.1, by cases e <;> first | exact ⟨he.2, he.1⟩ | exact he.2⟩
      · exact hs.elim
    case callvq x xs =>
      simp only [sop] at hs ⊢
      split at hs
      · exact hs.mono fun e h' he => ⟨he.1, by cases e <;> first | exact ⟨he.2, he.1⟩ | exact he.2⟩
      · exact hs.elim
    case appn size bytes z y =>
      simp only [sop] at hs ⊢
      split at hs
      · obtain ⟨xs, ys, h1, h2, h3, h4, h5, h6, h7⟩ := hs
        exact ⟨xs, ys, h1, h2, h3, h4, h5, fun hle => ⟨h6 hle, Ext.refl h⟩, fun hlt => ⟨(h7 hlt).1, fun c' b' h' x y => ⟨(h7 hlt).2 c' b' h' x y, y.ext⟩⟩⟩
      · exact hs.elim
    case byts x =>
      simp only [sop] at hs ⊢
      split at hs
      · exact fun c b h' h1 h2 => ⟨hs c b h' h1 h2, h2.ext⟩
      · exact hs.elim
    case newT t z =>
      simp only [sop] at hs ⊢
      exact fun b h' h1 h2 => ⟨hs b h' h1 h2, h1.ext⟩
    case rng x =>
      simp only [sop] at hs ⊢
      split at hs
      · exact fun b h' hg => ⟨hs b h' hg, hg.ext⟩
      · obtain ⟨es, c, h1, h2⟩ := hs
        exact ⟨es, c, h1, fun b h' hg => ⟨h2 b h' hg, hg.ext⟩⟩
      · exact hs.elim
    all_goals
      simp only [sop] at hs ⊢
      (repeat' split at hs) <;> first
        | exact hs.elim
        | exact fun b h' hg => ⟨hs b h' hg, hg.ext⟩
        | (obtain ⟨a, b, c, d, e⟩ := hs; exact ⟨a, b, c, d, fun b' h' hp => ⟨e b' h' hp, hp.ext⟩⟩)

end Go.Sx
