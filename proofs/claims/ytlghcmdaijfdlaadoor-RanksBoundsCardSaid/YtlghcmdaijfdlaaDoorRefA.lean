/-
  The contracts of the functions of taborref05: what they give is what plain functions on lists give.
-/
import Derived.Test.YtlghcmdaijfdlaaDoorSxR
import Derived.Test.YtlghcmdaijfdlaaDoorCode
namespace Go.Proofs.YtlghcmdaijfdlaaDoor
open Go Go.Sx Go.Proofs.YtlghcmdaijfdlaaDoor.C

/-! ### Plain -/
structure Rank where
  name : ByteArray
  score : Int

def encR (r : Rank) : List Value := [.string r.name, .int .i64 r.score]
theorem encR_len (r : Rank) : (encR r).length = 2 := rfl
theorem encR_one (r : Rank) : ∀ u ∈ encR r, u.oneCell' = true := by
  intro u hu
  simp [encR] at hu
  rcases hu with rfl | rfl <;> rfl

def ahead (a b : Rank) : Bool := decide (a.score < b.score) || (decide (a.score = b.score) && sless a.name b.name)

def findR (n : ByteArray) : List Rank → Nat → Int
  | [], _ => -1
  | r :: l, i => if r.name = n then i else findR n l (i + 1)

/-- Those that p lets, asked of each and its place. -/
def sel (p : Rank → Nat → Bool) : List Rank → Nat → List Rank
  | [], _ => []
  | x :: l, i => if p x i then x :: sel p l (i + 1) else sel p l (i + 1)

theorem sel_snoc (p : Rank → Nat → Bool) (x : Rank) : ∀ (l : List Rank) (i : Nat), sel p (l ++ [x]) i = sel p l i ++ (if p x (i + l.length) then [x] else [])
  | [], i => by simp [sel]
  | y :: l, i => by
    have ih := sel_snoc p x l (i + 1)
    have e : i + 1 + l.length = i + (y :: l).length := by simp; omega
    rw [e] at ih
    simp only [List.cons_append, sel, ih]
    split <;> simp

theorem sel_length (p : Rank → Nat → Bool) : ∀ (l : List Rank) (i : Nat), (sel p l i).length ≤ l.length
  | [], i => by simp [sel]
  | y :: l, i => by
    have ih := sel_length p l (i + 1)
    simp only [sel]
    split <;> simp <;> omega

def dropR (n : ByteArray) (l : List Rank) : List Rank := sel (fun x _ => decide (x.name ≠ n)) l 0
def atR (f u : Int) (l : List Rank) : List Rank := sel (fun _ i => decide (f ≤ i) && decide ((i : Int) < u)) l 0
def betweenR (a b : Int) (l : List Rank) : List Rank := sel (fun x _ => decide (a ≤ x.score) && decide (x.score ≤ b)) l 0

/-- How many stand ahead, up to the first that doesn't. -/
def upto (x : Rank) : List Rank → Nat
  | [] => 0
  | y :: l => if ahead y x then upto x l + 1 else 0

theorem upto_le (x : Rank) : ∀ l, upto x l ≤ l.length
  | [] => by simp [upto]
  | y :: l => by
    have := upto_le x l
    simp only [upto]; split <;> simp; omega

def insR (x : Rank) (l : List Rank) : List Rank := l.take (upto x l) ++ x :: l.drop (upto x l)
def setR (l : List Rank) (x : Rank) : List Rank := insR x (dropR x.name l)
def setErr (l : List Rank) (x : Rank) : Bool := decide (1048576 < x.name.size) || (decide (findR x.name l 0 < 0) && decide (65536 ≤ l.length))

def ofGo : List Rank → List Rank → Option (List Rank)
  | out, [] => some out
  | out, x :: l => if 0 ≤ findR x.name out 0 then none else ofGo (if setErr out x then out else setR out x) l

def ofErr (l : List Rank) : Int :=
  if 65536 < l.length then 3 else if l.any (fun x => decide (1048576 < x.name.size)) then 3 else if (ofGo [] l).isNone then 2 else 0
def ofR (l : List Rank) : List Rank := if ofErr l = 0 then (ofGo [] l).getD [] else []

theorem take_snoc {α : Type} (l : List α) (k : Nat) (h : k < l.length) : l.take (k + 1) = l.take k ++ [l[k]] := by
  rw [List.take_succ_eq_append_getElem h]

/-! ### Walks -/
theorem ahead_calls {h : Heap} (a b : Rank) :
    CallsH Tryd.prog 39 [.agg ⟨encR a⟩, .agg ⟨encR b⟩] h (Ret fun u h' => u = .bool (ahead a b) ∧ Chg [] h h') := by
  refine f39_calls (by simp) ?_
  intro b1 h1 g1 b2 h2 g2
  have B1 : Blk h2 b1 (encR a) := g1.blk.chg g2.chg (by simp)
  have B2 : Blk h2 b2 (encR b) := g2.blk
  have hc : Chg [] h h2 := g1.chg.nil g2.chg
  refine Exists.intro _ (And.intro (cell_blk B1 rfl) (Exists.intro _ (And.intro (cell_blk B2 rfl) ?_)))
  refine And.intro rfl (And.intro (fun ht => ?_) (fun ht => ?_))
  · have e : ahead a b = true := by simp [ahead, ht]
    refine And.intro ?_ hc
    rw [e]; rfl
  · refine Exists.intro _ (And.intro (cell_blk B1 rfl) (Exists.intro _ (And.intro (cell_blk B2 rfl) ?_)))
    refine And.intro rfl (And.intro (fun he => ?_) (fun he => ?_))
    · refine Exists.intro _ (And.intro (cell_blk B1 rfl) (Exists.intro _ (And.intro (cell_blk B2 rfl) ?_)))
      refine And.intro (fun hl => ?_) (fun hl => ?_)
      · have e : ahead a b = true := by simp [ahead, he, hl]
        exact And.intro (by rw [e]; rfl) hc
      · have e : ahead a b = false := by simp [ahead, he, hl]
        exact And.intro (by rw [e]; rfl) hc
    · have e : ahead a b = false := by simp [ahead, ht, he]
      exact And.intro (by rw [e]; rfl) hc

theorem find_calls {h : Heap} {v : Value} {l : List Rank} (hv : SL encR h v l) (nm : ByteArray) (hl : l.length < 4611686018427387904) :
    CallsH Tryd.prog 14 [v, .string nm] h (Ret fun u h' => u = .int .i64 (findR nm l 0) ∧ h' = h) := by
  obtain ⟨a, c, rfl, hlc⟩ := hv.form
  refine f14_calls (by simp) ?_
  refine loop_intro (fun k : Nat => [(0, .slice a l.length c), (1, .string nm), (5, .int .i64 k)]) (fun k h' => k ≤ l.length ∧ h' = h ∧ findR nm l 0 = findR nm (l.drop k) k) (fun k => l.length - k) 0 ⟨rfl, rfl, rfl, trivial⟩ ⟨Nat.zero_le _, rfl, rfl⟩ ?_
  rintro k h' ⟨hk, rfl, hf⟩
  refine And.intro rfl (And.intro (fun ht => ?_) (fun ht => ?_))
  · have hlt : k < l.length := by omega
    rw [List.drop_eq_getElem_cons hlt, findR] at hf
    obtain ⟨b, o, rfl⟩ := hv.addr (by omega)
    have hcs := hv.cells encR_len (i := k) (x := l[k]) (by simp [hlt])
    refine And.intro (by omega) (And.intro ht (Exists.intro _ (And.intro (hcs 0 _ rfl) (And.intro (fun he => ?_) (fun he => ?_)))))
    · exact And.intro (by rw [hf, if_pos he]; rfl) rfl
    · refine And.intro rfl (fun z hz => ?_)
      have hz := add_in hz (by omega) (by omega)
      subst hz
      refine And.intro rfl (Exists.intro (k + 1) (And.intro ?_ (And.intro ?_ ?_)))
      · exact ⟨rfl, rfl, rfl, trivial⟩
      · exact ⟨by omega, rfl, by rw [hf, if_neg he]⟩
      · omega
  · have hlt : k = l.length := by omega
    subst hlt
    simp [findR] at hf
    exact And.intro (by rw [hf]; rfl) rfl

theorem ranks_eq {a b : Rank} (h : encR a = encR b) : a = b := by
  cases a; cases b; simp [encR] at h; simp [h]

theorem same_calls {h : Heap} {v u : Value} {l m : List Rank} (hv : SL encR h v l) (hu : SL encR h u m) (hl : l.length < 4611686018427387904) (hm : m.length < 4611686018427387904) :
    CallsH Tryd.prog 15 [v, u] h (Ret fun r h' => (∃ t, r = .bool t ∧ (t = true ↔ l = m)) ∧ h' = h) := by
  obtain ⟨a, c, rfl, hlc⟩ := hv.form
  obtain ⟨a', c', rfl, hmc⟩ := hu.form
  refine f15_calls (by simp) ?_
  refine And.intro rfl (And.intro (fun hne => ?_) (fun hne => ?_))
  · refine And.intro (Exists.intro false (And.intro rfl ?_)) rfl
    constructor
    · intro h; cases h
    · rintro rfl; exact absurd rfl hne
  · have hlen : l.length = m.length := by
      have : ¬ ((l.length : Int) ≠ m.length) := hne
      omega
    clear hne
    refine loop_intro (fun k : Nat => [(0, .slice a l.length c), (1, .slice a' m.length c'), (5, .int .i64 k)]) (fun k h' => k ≤ l.length ∧ h' = h ∧ l.take k = m.take k) (fun k => l.length - k) 0 ⟨rfl, rfl, rfl, trivial⟩ ⟨Nat.zero_le _, rfl, by simp⟩ ?_
    rintro k h' ⟨hk, rfl, hf⟩
    refine And.intro rfl (And.intro (fun ht => ?_) (fun ht => ?_))
    · have hlt : k < l.length := by omega
      have hlt2 : k < m.length := by omega
      obtain ⟨b, o, rfl⟩ := hv.addr (by omega)
      obtain ⟨b', o', rfl⟩ := hu.addr (by omega)
      have hcs := hv.cells encR_len (i := k) (x := l[k]) (by simp [hlt])
      have hds := hu.cells encR_len (i := k) (x := m[k]) (by simp [hlt2])
      refine And.intro (by omega) (And.intro ht (Exists.intro (encR l[k]) (And.intro rfl (And.intro hcs ?_))))
      refine And.intro (by omega) (And.intro (by omega) (Exists.intro (encR m[k]) (And.intro rfl (And.intro hds ?_))))
      refine And.intro rfl (And.intro rfl (And.intro (fun he => ?_) (fun he => ?_)))
      · refine And.intro rfl (fun z hz => ?_)
        have hz := add_in hz (by omega) (by omega)
        subst hz
        refine And.intro rfl (Exists.intro (k + 1) (And.intro ?_ (And.intro ?_ ?_)))
        · exact ⟨rfl, rfl, rfl, trivial⟩
        · exact ⟨by omega, rfl, by rw [take_snoc l k hlt, take_snoc m k hlt2, hf, ranks_eq he]⟩
        · omega
      · refine And.intro (Exists.intro false (And.intro rfl ?_)) rfl
        constructor
        · intro h; cases h
        · rintro rfl; exact absurd rfl he
    · have hlt : k = l.length := by omega
      subst hlt
      refine And.intro (Exists.intro true (And.intro rfl ?_)) rfl
      rw [hlen] at hf
      rw [← hlen, List.take_length, hlen, List.take_length] at hf
      simp [hf]

theorem drop_calls {h : Heap} {v : Value} {l : List Rank} (hv : SL encR h v l) (nm : ByteArray) (hl : l.length ≤ 1000000) :
    CallsH Tryd.prog 22 [v, .string nm] h (Ret fun u h' => OL encR 2 h' u (dropR nm l) ∧ Chg [] h h' ∧ ∀ b ∈ vblk u, h.size ≤ b) := by
  obtain ⟨a, c, rfl, hlc⟩ := hv.form
  refine f22_calls (by simp) ?_
  refine loop_intro (fun i : Nat × Value => [(0, .slice a l.length c), (1, .string nm), (5, i.2), (6, .int .i64 i.1)])
    (fun i h' => i.1 ≤ l.length ∧ OL encR 2 h' i.2 (sel (fun x _ => decide (x.name ≠ nm)) (l.take i.1) 0) ∧ Chg [] h h' ∧ ∀ b ∈ vblk i.2, h.size ≤ b) (fun i => l.length - i.1) (0, .slice none 0 0)
    ⟨rfl, rfl, rfl, rfl, trivial⟩ ⟨Nat.zero_le _, OL.nil, Chg.refl h, by simp [vblk, ablk]⟩ ?_
  rintro ⟨k, ov⟩ h1 ⟨hk, ho, hc, hb⟩
  simp only at hk ho hb
  refine And.intro rfl (And.intro (fun ht => ?_) (fun ht => ?_))
  · have hlt : k < l.length := by omega
    obtain ⟨b, o, rfl⟩ := hv.addr (by omega)
    have hcs := (hv.ext hc).cells encR_len (i := k) (x := l[k]) (by simp [hlt])
    have hsn : sel (fun x _ => decide (x.name ≠ nm)) (l.take (k + 1)) 0 = sel (fun x _ => decide (x.name ≠ nm)) (l.take k) 0 ++ (if decide (l[k].name ≠ nm) then [l[k]] else []) := by
      rw [take_snoc l k hlt, sel_snoc]
    have hlen := sel_length (fun x _ => decide (x.name ≠ nm)) (l.take k) 0
    refine And.intro (by omega) (And.intro ht (Exists.intro _ (And.intro (hcs 0 _ rfl) (And.intro (fun he => ?_) (fun he => ?_)))))
    · -- kept
      rw [if_pos (by simpa using he)] at hsn
      refine And.intro (by omega) (And.intro ht (Exists.intro (encR l[k]) (And.intro rfl (And.intro hcs ?_))))
      intro b1 h2 g2
      obtain ⟨a1, c1, rfl, hoc⟩ := ho.sl.form
      refine app_own encR_len encR_one rfl (ho.ext g2.chg) (SL.one encR_len g2.blk) ?_ ?_
      · simp at hlen ⊢; omega
      · intro v' h3 ho' hch hbl
        refine And.intro rfl (fun z hz => ?_)
        have hz := add_in hz (by omega) (by omega)
        subst hz
        have hc3 : Chg [] h h3 := (hc.nil g2.chg).fresh hch fun k hk => hb k hk
        refine And.intro rfl (Exists.intro (k + 1, v') (And.intro ?_ (And.intro ?_ ?_)))
        · exact ⟨rfl, rfl, rfl, rfl, trivial⟩
        · refine ⟨by simp only; omega, by rw [hsn]; exact ho', hc3, fun b' hb' => ?_⟩
          rcases hbl b' hb' with h | h
          · exact hb b' h
          · have := hc.size; have := g2.size; omega
        · simp only; omega
    · -- left out
      rw [if_neg (by simpa using he), List.append_nil] at hsn
      refine And.intro rfl (fun z hz => ?_)
      have hz := add_in hz (by omega) (by omega)
      subst hz
      refine And.intro rfl (Exists.intro (k + 1, ov) (And.intro ?_ (And.intro ?_ ?_)))
      · exact ⟨rfl, rfl, rfl, rfl, trivial⟩
      · exact ⟨by simp only; omega, by rw [hsn]; exact ho, hc, hb⟩
      · simp only; omega
  · have hlt : k = l.length := by omega
    subst hlt
    rw [List.take_length] at ho
    exact And.intro ho (And.intro hc hb)

theorem at_calls {h : Heap} {v : Value} {l : List Rank} (hv : SL encR h v l) (f u : Int) (hl : l.length ≤ 1000000) :
    CallsH Tryd.prog 17 [v, .int .i64 f, .int .i64 u] h (Ret fun r h' => OL encR 2 h' r (atR f u l) ∧ Chg [] h h' ∧ ∀ b ∈ vblk r, h.size ≤ b) := by
  obtain ⟨a, c, rfl, hlc⟩ := hv.form
  refine f17_calls (by simp) ?_
  refine loop_intro (fun i : Nat × Value => [(0, .slice a l.length c), (1, .int .i64 f), (2, .int .i64 u), (7, i.2), (8, .int .i64 i.1)])
    (fun i h' => i.1 ≤ l.length ∧ OL encR 2 h' i.2 (sel (fun _ i => decide (f ≤ i) && decide ((i : Int) < u)) (l.take i.1) 0) ∧ Chg [] h h' ∧ ∀ b ∈ vblk i.2, h.size ≤ b) (fun i => l.length - i.1) (0, .slice none 0 0)
    ⟨rfl, rfl, rfl, rfl, rfl, trivial⟩ ⟨Nat.zero_le _, OL.nil, Chg.refl h, by simp [vblk, ablk]⟩ ?_
  rintro ⟨k, ov⟩ h1 ⟨hk, ho, hc, hb⟩
  simp only at hk ho hb
  refine And.intro rfl (And.intro (fun ht => ?_) (fun ht => ?_))
  · have hlt : k < l.length := by omega
    obtain ⟨b, o, rfl⟩ := hv.addr (by omega)
    have hcs := (hv.ext hc).cells encR_len (i := k) (x := l[k]) (by simp [hlt])
    have hsn : sel (fun _ i => decide (f ≤ i) && decide ((i : Int) < u)) (l.take (k + 1)) 0 = sel (fun _ i => decide (f ≤ i) && decide ((i : Int) < u)) (l.take k) 0 ++ (if (decide (f ≤ k) && decide ((k : Int) < u)) then [l[k]] else []) := by
      rw [take_snoc l k hlt, sel_snoc]; simp [Nat.min_eq_left hk]
    have hlen := sel_length (fun _ i => decide (f ≤ i) && decide ((i : Int) < u)) (l.take k) 0
    have skip : (decide (f ≤ k) && decide ((k : Int) < u)) = false → ∀ z : Int, z = arith .add .i64 k 1 → ∃ i' : Nat × Value, SubL (upd (upd (upd (mk [(0, .slice (some ⟨b, o, none⟩) l.length c), (1, .int .i64 f), (2, .int .i64 u), (7, ov), (8, .int .i64 k)]) (some 13) (.int .i64 k)) (some 14) (.int .i64 z)) (some 8) (.int .i64 z)) [(0, .slice (some ⟨b, o, none⟩) l.length c), (1, .int .i64 f), (2, .int .i64 u), (7, i'.2), (8, .int .i64 i'.1)] ∧
        (i'.1 ≤ l.length ∧ OL encR 2 h1 i'.2 (sel (fun _ i => decide (f ≤ i) && decide ((i : Int) < u)) (l.take i'.1) 0) ∧ Chg [] h h1 ∧ ∀ b ∈ vblk i'.2, h.size ≤ b) ∧ l.length - i'.1 < l.length - k := by
      intro hp z hz
      have hz := add_in hz (by omega) (by omega)
      subst hz
      rw [hp, if_neg (by simp), List.append_nil] at hsn
      exact ⟨(k + 1, ov), ⟨rfl, rfl, rfl, rfl, rfl, trivial⟩, ⟨by simp only; omega, by rw [hsn]; exact ho, hc, hb⟩, by simp only; omega⟩
    refine And.intro rfl (And.intro (fun h1' => ?_) (fun h1' => ?_))
    · refine And.intro rfl (And.intro (fun h2' => ?_) (fun h2' => ?_))
      · have hp : (decide (f ≤ k) && decide ((k : Int) < u)) = true := by simp [h1', h2']
        rw [hp, if_pos rfl] at hsn
        refine And.intro (by omega) (And.intro ht (Exists.intro (encR l[k]) (And.intro rfl (And.intro hcs ?_))))
        intro b1 h2 g2
        obtain ⟨a1, c1, rfl, hoc⟩ := ho.sl.form
        refine app_own encR_len encR_one rfl (ho.ext g2.chg) (SL.one encR_len g2.blk) ?_ ?_
        · simp at hlen ⊢; omega
        · intro v' h3 ho' hch hbl
          refine And.intro rfl (fun z hz => ?_)
          have hz := add_in hz (by omega) (by omega)
          subst hz
          have hc3 : Chg [] h h3 := (hc.nil g2.chg).fresh hch fun k hk => hb k hk
          refine And.intro rfl (Exists.intro (k + 1, v') (And.intro ?_ (And.intro ?_ ?_)))
          · exact ⟨rfl, rfl, rfl, rfl, rfl, trivial⟩
          · refine ⟨by simp only; omega, by rw [hsn]; exact ho', hc3, fun b' hb' => ?_⟩
            rcases hbl b' hb' with h | h
            · exact hb b' h
            · have := hc.size; have := g2.size; omega
          · simp only; omega
      · refine And.intro rfl (fun z hz => And.intro rfl ?_)
        exact skip (by simp [h1', h2']) z hz
    · refine And.intro rfl (fun z hz => And.intro rfl ?_)
      exact skip (by simp [h1']) z hz
  · have hlt : k = l.length := by omega
    subst hlt
    rw [List.take_length] at ho
    exact And.intro ho (And.intro hc hb)

theorem between_calls {h : Heap} {v : Value} {l : List Rank} (hv : SL encR h v l) (f u : Int) (hl : l.length ≤ 1000000) :
    CallsH Tryd.prog 19 [v, .int .i64 f, .int .i64 u] h (Ret fun r h' => OL encR 2 h' r (betweenR f u l) ∧ Chg [] h h' ∧ ∀ b ∈ vblk r, h.size ≤ b) := by
  obtain ⟨a, c, rfl, hlc⟩ := hv.form
  refine f19_calls (by simp) ?_
  refine loop_intro (fun i : Nat × Value => [(0, .slice a l.length c), (1, .int .i64 f), (2, .int .i64 u), (7, i.2), (8, .int .i64 i.1)])
    (fun i h' => i.1 ≤ l.length ∧ OL encR 2 h' i.2 (sel (fun x _ => decide (f ≤ x.score) && decide (x.score ≤ u)) (l.take i.1) 0) ∧ Chg [] h h' ∧ ∀ b ∈ vblk i.2, h.size ≤ b) (fun i => l.length - i.1) (0, .slice none 0 0)
    ⟨rfl, rfl, rfl, rfl, rfl, trivial⟩ ⟨Nat.zero_le _, OL.nil, Chg.refl h, by simp [vblk, ablk]⟩ ?_
  rintro ⟨k, ov⟩ h1 ⟨hk, ho, hc, hb⟩
  simp only at hk ho hb
  refine And.intro rfl (And.intro (fun ht => ?_) (fun ht => ?_))
  · have hlt : k < l.length := by omega
    obtain ⟨b, o, rfl⟩ := hv.addr (by omega)
    have hcs := (hv.ext hc).cells encR_len (i := k) (x := l[k]) (by simp [hlt])
    have hsn : sel (fun x _ => decide (f ≤ x.score) && decide (x.score ≤ u)) (l.take (k + 1)) 0 = sel (fun x _ => decide (f ≤ x.score) && decide (x.score ≤ u)) (l.take k) 0 ++ (if (decide (f ≤ l[k].score) && decide (l[k].score ≤ u)) then [l[k]] else []) := by
      rw [take_snoc l k hlt, sel_snoc]
    have hlen := sel_length (fun x _ => decide (f ≤ x.score) && decide (x.score ≤ u)) (l.take k) 0
    have skip : (decide (f ≤ l[k].score) && decide (l[k].score ≤ u)) = false → ∀ z : Int, z = arith .add .i64 k 1 → ∃ i' : Nat × Value, SubL (upd (upd (upd (mk [(0, .slice (some ⟨b, o, none⟩) l.length c), (1, .int .i64 f), (2, .int .i64 u), (7, ov), (8, .int .i64 k)]) (some 13) (.int .i64 k)) (some 14) (.int .i64 z)) (some 8) (.int .i64 z)) [(0, .slice (some ⟨b, o, none⟩) l.length c), (1, .int .i64 f), (2, .int .i64 u), (7, i'.2), (8, .int .i64 i'.1)] ∧
        (i'.1 ≤ l.length ∧ OL encR 2 h1 i'.2 (sel (fun x _ => decide (f ≤ x.score) && decide (x.score ≤ u)) (l.take i'.1) 0) ∧ Chg [] h h1 ∧ ∀ b ∈ vblk i'.2, h.size ≤ b) ∧ l.length - i'.1 < l.length - k := by
      intro hp z hz
      have hz := add_in hz (by omega) (by omega)
      subst hz
      rw [hp, if_neg (by simp), List.append_nil] at hsn
      exact ⟨(k + 1, ov), ⟨rfl, rfl, rfl, rfl, rfl, trivial⟩, ⟨by simp only; omega, by rw [hsn]; exact ho, hc, hb⟩, by simp only; omega⟩
    refine And.intro (by omega) (And.intro ht (Exists.intro _ (And.intro (hcs 1 _ rfl) (And.intro rfl (And.intro (fun h1' => ?_) (fun h1' => ?_))))))
    · refine And.intro (by omega) (And.intro ht (Exists.intro _ (And.intro (hcs 1 _ rfl) (And.intro rfl (And.intro (fun h2' => ?_) (fun h2' => ?_))))))
      · have hp : (decide (f ≤ l[k].score) && decide (l[k].score ≤ u)) = true := by simp [h1', h2']
        rw [hp, if_pos rfl] at hsn
        refine And.intro (by omega) (And.intro ht (Exists.intro (encR l[k]) (And.intro rfl (And.intro hcs ?_))))
        intro b1 h2 g2
        obtain ⟨a1, c1, rfl, hoc⟩ := ho.sl.form
        refine app_own encR_len encR_one rfl (ho.ext g2.chg) (SL.one encR_len g2.blk) ?_ ?_
        · simp at hlen ⊢; omega
        · intro v' h3 ho' hch hbl
          refine And.intro rfl (fun z hz => ?_)
          have hz := add_in hz (by omega) (by omega)
          subst hz
          have hc3 : Chg [] h h3 := (hc.nil g2.chg).fresh hch fun k hk => hb k hk
          refine And.intro rfl (Exists.intro (k + 1, v') (And.intro ?_ (And.intro ?_ ?_)))
          · exact ⟨rfl, rfl, rfl, rfl, rfl, trivial⟩
          · refine ⟨by simp only; omega, by rw [hsn]; exact ho', hc3, fun b' hb' => ?_⟩
            rcases hbl b' hb' with h | h
            · exact hb b' h
            · have := hc.size; have := g2.size; omega
          · simp only; omega
      · refine And.intro rfl (fun z hz => And.intro rfl ?_)
        exact skip (by simp [h1', h2']) z hz
    · refine And.intro rfl (fun z hz => And.intro rfl ?_)
      exact skip (by simp [h1']) z hz
  · have hlt : k = l.length := by omega
    subst hlt
    rw [List.take_length] at ho
    exact And.intro ho (And.intro hc hb)

theorem insR_len (x : Rank) (l : List Rank) : (insR x l).length = l.length + 1 := by
  have := upto_le x l
  simp [insR]; omega
theorem dropR_len (n : ByteArray) (l : List Rank) : (dropR n l).length ≤ l.length := sel_length _ l 0
theorem setR_len (l : List Rank) (x : Rank) : (setR l x).length ≤ l.length + 1 := by
  have := dropR_len x.name l
  unfold setR; rw [insR_len]; omega

theorem upto_spec (x : Rank) : ∀ (l : List Rank) (k : Nat), (∀ j (hj : j < l.length), j < k → ahead l[j] x = true) → k ≤ l.length → (∀ hk : k < l.length, ahead l[k] x = false) → upto x l = k
  | [], k, _, hk, _ => by simp at hk; simp [upto, hk]
  | y :: l, 0, _, _, h => by
    have := h (by simp)
    simp at this
    simp [upto, this]
  | y :: l, k + 1, h1, hk, h2 => by
    have hy := h1 0 (by simp) (by omega)
    simp at hy
    simp only [upto, hy, if_true]
    rw [upto_spec x l k (fun j hj hjk => by have := h1 (j + 1) (by simpa using hj) (by omega); simpa using this) (by simpa using hk) (fun hk' => by have := h2 (by simpa using hk'); simpa using this)]

end Go.Proofs.YtlghcmdaijfdlaaDoor
