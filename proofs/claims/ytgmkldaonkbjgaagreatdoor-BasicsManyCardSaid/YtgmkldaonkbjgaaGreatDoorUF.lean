/-
  Layer 8: what is known of a keyspace that keys.Of made of few things.
  Layer 8: Do, whatever is asked.
  Layer 8: whatever is asked: its effects are all done.
  Layer 8: the program's answer against the document's: replies, effects, the keyspace.
  Layer 8: the document's answer: KEYS, DBSIZE, FLUSHALL; replies and bounds of the words of many keys.
  Layer 8: known(), by a walk.
  Layer 8: the law of many keys (taborlaw08.BasicsMany).
  The world of a witness: the tables and errors of strconv and math/bits as they are laid.
  Layer 7: things, entries and effects opened.
  Layer 8: strconv's laid variables, as the walks want them; arguments opened.
  BasicsMany: of several keys, some of them twice, those that are there go, are counted, are told, are set; for every list of things, every time, every names.
-/
import Derived.Test.YtgmkldaonkbjgaaGreatDoorCards
import Derived.Test.YtgmkldaonkbjgaaGreatDoorTie
import Derived.Deep.DeepHandedRow
import Derived.ProofKit
import Derived.Test.YtgmkldaonkbjgaaGreatDoorUE
namespace Go.Proofs.YtgmkldaonkbjgaaGreatDoor
open Go Go.Sx Go.Proofs.YtgmkldaonkbjgaaGreatDoor.C

theorem tin8 {t : Thing} (hk : kOK t = true) (s : Small t) : TIn t := by
  have few : countT t ≤ 65536 := (small_short s).2.2.2
  unfold kOK at hk
  split at hk
  · cases hk
  split at hk
  · rename_i h1
    have hk := of_decide_eq_true hk
    have p : t.pairs = [] := List.length_eq_zero_iff.1 (by omega)
    have l : t.list = [] := List.length_eq_zero_iff.1 (by omega)
    have r : t.ranks = [] := List.length_eq_zero_iff.1 (by omega)
    exact ⟨⟨by rw [p]; exact .nil, fun _ => by rw [l]; exact .nil, by rw [r]; exact .nil, by rw [r]; exact List.nodup_nil, fun h => by omega, few⟩, fun h => by omega⟩
  split at hk
  · rename_i h1
    simp only [Bool.and_eq_true, decide_eq_true_eq] at hk
    obtain ⟨h2, h3, h4, h5⟩ := hk
    have r : t.ranks = [] := List.length_eq_zero_iff.1 (by omega)
    exact ⟨⟨rising_lt (lt := fun x y : Pair => sless x.name y.name) (fun a b c => sless_trans) h5, fun h => by omega, by rw [r]; exact .nil, by rw [r]; exact List.nodup_nil, fun h => by omega, few⟩, fun h => by omega⟩
  split at hk
  · rename_i h1
    simp only [Bool.and_eq_true, decide_eq_true_eq] at hk
    obtain ⟨h2, h3, h4⟩ := hk
    have p : t.pairs = [] := List.length_eq_zero_iff.1 (by omega)
    have r : t.ranks = [] := List.length_eq_zero_iff.1 (by omega)
    exact ⟨⟨by rw [p]; exact .nil, fun h => by omega, by rw [r]; exact .nil, by rw [r]; exact List.nodup_nil, fun _ => ⟨p, r⟩, few⟩, fun _ => List.length_pos_iff.1 h2⟩
  split at hk
  · rename_i h1
    simp only [Bool.and_eq_true, decide_eq_true_eq] at hk
    obtain ⟨h2, h3, h4, h5⟩ := hk
    have p : t.pairs = [] := List.length_eq_zero_iff.1 (by omega)
    have r : t.ranks = [] := List.length_eq_zero_iff.1 (by omega)
    exact ⟨⟨by rw [p]; exact .nil, fun _ => rising_lt (lt := sless) (fun a b c => sless_trans) h5, by rw [r]; exact .nil, by rw [r]; exact List.nodup_nil, fun h => by omega, few⟩, fun h => by omega⟩
  split at hk
  · rename_i h1
    simp only [Bool.and_eq_true, decide_eq_true_eq] at hk
    obtain ⟨h2, h3, h4, h5, h6⟩ := hk
    have p : t.pairs = [] := List.length_eq_zero_iff.1 (by omega)
    exact ⟨⟨by rw [p]; exact .nil, fun h => by omega, rising_lt ahead_tr h5, of_decide_eq_true h6, fun h => by omega, few⟩, fun h => by omega⟩
  · cases hk

theorem named8 {t : Thing} (s : Small t) : Named t := ⟨fun x hx => by have := s.ps x hx; omega, fun x hx => by have := s.ls x hx; omega, fun x hx => by have := s.rs x hx; omega⟩

theorem rg8 {l k : List RX} (nv : NVast l) (hk : ofX [] l = some k) : RG k := by
  obtain ⟨h1, h2, h3⟩ := ofX_ok List.Pairwise.nil hk
  have hn := (ofX_nodup List.Pairwise.nil hk).2
  have hm : ∀ x ∈ k, x ∈ l := fun x hx => by simpa using (h2 x).1 hx
  have hl := nv.len
  have hlk : k.length = l.length := by simpa using h3
  exact ⟨h1, by omega, fun x hx => nv.fit x (hm x hx), fun x hx => tin8 (hn x (hm x hx)) (nv.small x (hm x hx)), fun x hx => named8 (nv.small x (hm x hx))⟩


theorem kind8 {t : Thing} (hk : kOK t = true) : 1 ≤ t.kind ∧ t.kind ≤ 5 := by
  unfold kOK at hk
  split at hk
  · cases hk
  split at hk
  · omega
  split at hk
  · omega
  split at hk
  · omega
  split at hk
  · omega
  split at hk
  · omega
  · cases hk

structure S8 (S : Space) : Prop where
  few : Few S
  kind : KindS S
  text : TextS S
  unt : UntS S
  nm : ∀ p ∈ S, Named p.2

theorem s8_of {l k : List RX} (nv : NVast l) (hk : ofX [] l = some k) (hu : ∀ x ∈ l, In64 x.thing.unt) : S8 (k.map RX.pr) := by
  obtain ⟨h1, h2, h3⟩ := ofX_ok List.Pairwise.nil hk
  have hn := (ofX_nodup List.Pairwise.nil hk).2
  have hm : ∀ x ∈ k, x ∈ l := fun x hx => by simpa using (h2 x).1 hx
  have hl := nv.len
  have hlk : k.length = l.length := by simpa using h3
  have rg := rg8 nv hk
  have of : ∀ p ∈ k.map RX.pr, ∃ x ∈ l, RX.pr x = p := fun p hp => by
    obtain ⟨x, hx, rfl⟩ := List.mem_map.1 hp
    exact ⟨x, hm x hx, rfl⟩
  refine ⟨⟨pr_up h1, fun p hp => ?_, by simp; omega, rg.ins⟩, fun p hp => ?_, fun p hp => ?_, fun p hp => ?_, fun p hp => ?_⟩
  · obtain ⟨x, hx, rfl⟩ := of p hp
    have := nv.keys x hx
    show x.key.size ≤ 1048576
    omega
  · obtain ⟨x, hx, rfl⟩ := of p hp
    exact kind8 (hn x hx)
  · obtain ⟨x, hx, rfl⟩ := of p hp
    have := (nv.small x hx).text
    show x.thing.text.size < 281474976710656
    omega
  · obtain ⟨x, hx, rfl⟩ := of p hp
    exact hu x hx
  · obtain ⟨x, hx, rfl⟩ := of p hp
    exact named8 (nv.small x hx)

theorem rg_of8 {k : List RX} (hup : UpX k) (hl : k.length ≤ 20) (hfit : KeysFit k) (s8 : S8 (k.map RX.pr)) : RG k :=
  ⟨hup, by omega, hfit, fun x hx => s8.few.ins x.pr (List.mem_map_of_mem hx), fun x hx => s8.nm x.pr (List.mem_map_of_mem hx)⟩

end Go.Proofs.YtgmkldaonkbjgaaGreatDoor
namespace Go.Proofs.YtgmkldaonkbjgaaGreatDoor
open Go Go.Sx Go.Proofs.YtgmkldaonkbjgaaGreatDoor.C

theorem do_plain {h : Heap} {kb sb mb c g : Nat} {now : Int} {av : Value} {w : ByteArray} {A : List ByteArray} {m : List KI} {res : Res} (kr : KR h kb sb mb c m)
    (hA : SL encS h av (w :: A)) (hl : (w :: A).length < 4611686018427387904) (hz : w.size < 4611686018427387904) (hno : lookF cmdF (up w) = some (g, none))
    (hf : ∀ h1 ab av', AS h h1 ab kb now av' A (.slice none 0 0) [] → CallsH Tryz.prog g [ptr ab] h1 (CmdR h h1 ab kb now av' A (.slice none 0 0) res)) :
    CallsH Tryz.prog 11 [ptr kb, .int .i64 now, av] h (Ret (DoR h res)) :=
  do_calls kr hA hl hz hno fun h1 ab av' cap hc x => by
    have hc : cap = [] := hc
    subst hc
    exact hf h1 ab av' x
theorem do_step {h : Heap} {kb sb mb c : Nat} {now n : Int} {av : Value} {w : ByteArray} {A : List ByteArray} {m : List KI} {S : Space} (kr : KR h kb sb mb c m) (hs : Sorted m S) (hla : LaidN h) (hT : TextS S)
    (hA : SL encS h av (w :: A)) (hl : (w :: A).length < 4611686018427387904) (hz : ∀ s ∈ w :: A, s.size < 281474976710656) (hn : In64 n) (hno : lookF cmdF (up w) = some (110, some n)) :
    CallsH Tryz.prog 11 [ptr kb, .int .i64 now, av] h (Ret (DoR h (cStep S now n A))) :=
  do_calls kr hA hl (by have := hz w (by simp); omega) hno fun h1 ab av' cap hc x => by
    obtain ⟨b, o, rfl, hc⟩ := hc
    exact step_calls x kr hs hla hc hn (fun s hs => hz s (by simp [hs])) hT

end Go.Proofs.YtgmkldaonkbjgaaGreatDoor
namespace Go.Proofs.YtgmkldaonkbjgaaGreatDoor
open Go Go.Sx Go.Proofs.YtgmkldaonkbjgaaGreatDoor.C

def Fine (S : Space) (res : Res) : Prop := ∀ q E, res = .ok (q, E) → q.k ≠ 2 ∧ E.length ≤ 100000 ∧ ∃ S', allS S E = some S'

section
variable {S : Space} {now n : Int} {A : List ByteArray} {res : Res} {q r : Rep} {E : List Eff} {k s w : ByteArray} {go : Option Thing}

theorem Fine.bad : Fine S (.error w) := fun q E h => by cases h
theorem Fine.of (hq : r.k ≠ 2) (hE : E.length ≤ 100000) (h : ∃ S', allS S E = some S') : Fine S (.ok (r, E)) := fun q E' e => by
  cases e
  exact ⟨hq, hE, h⟩
theorem Fine.none_ (hq : r.k ≠ 2) : Fine S (.ok (r, [])) := Fine.of hq (by simp) ⟨S, rfl⟩
theorem Fine.ite {c : Prop} [Decidable c] {a b : Res} (ha : c → Fine S a) (hb : ¬ c → Fine S b) : Fine S (if c then a else b) := by
  split
  · exact ha (by assumption)
  · exact hb (by assumption)
theorem Fine.done (hq : ∀ q E, res = .ok (q, E) → q.k ≠ 2 ∧ E.length ≤ 100000) (h : ∀ q E, res = .ok (q, E) → ∃ S', allS S E = some S') : Fine S res := fun q E e => ⟨(hq q E e).1, (hq q E e).2, h q E e⟩
theorem Fine.arg1 {f : ByteArray → Res} (h : ∀ x ∈ A, Fine S (f x)) : Fine S (arg1 f A) := by
  unfold Proofs.YtgmkldaonkbjgaaGreatDoor.arg1
  split
  · exact h _ (by simp)
  · exact Fine.bad
theorem Fine.arg0 (h : Fine S res) : Fine S (arg0 res A) := by
  unfold Proofs.YtgmkldaonkbjgaaGreatDoor.arg0
  split
  · exact h
  · exact Fine.bad

theorem keepE_len {stays : Bool} : (keepE go k stays).length ≤ 1 := by
  unfold keepE
  split
  · split <;> simp
  · simp
theorem putE_len {stays : Bool} : (putE S k s now stays).length ≤ 3 := by
  have := drops_len S k now
  have := keepE_len (go := getS S k now) (k := k) (stays := stays)
  simp only [putE, List.length_append, List.length_singleton]
  omega
theorem Fine.putR {stays : Bool} (f : Few S) (hq : r.k ≠ 2) : Fine S (putR S k s now stays r) := by
  refine Fine.done (fun q E h => ?_) fun q E h => putR_done f h
  have e := putR_rep h
  unfold Proofs.YtgmkldaonkbjgaaGreatDoor.putR at h
  split at h
  · have := putE_len (S := S) (k := k) (s := s) (now := now) (stays := stays)
    simp at h
    obtain ⟨_, rfl⟩ := h
    exact ⟨e ▸ hq, by omega⟩
  · cases h

theorem fine_del (f : Few S) : Fine S (cDel S now A) := by
  refine Fine.done (fun q E h => ?_) fun q E h => del_done f h
  unfold cDel inMost at h
  split at h
  · simp at h
    obtain ⟨rfl, rfl⟩ := h
    have := delL_len (S := S) (now := now) (L := A) (pre := [])
    exact ⟨by show (3 : Int) ≠ 2; decide, by omega⟩
  · cases h
theorem fine_exists : Fine S (cExists S now A) := Fine.ite (fun _ => Fine.none_ (by show (3 : Int) ≠ 2; decide)) fun _ => Fine.bad
theorem fine_mget : Fine S (cMget S now A) := Fine.ite (fun _ => Fine.none_ (by show (5 : Int) ≠ 2; decide)) fun _ => Fine.bad
theorem msetL_len : ∀ (m : Nat) (L pre : List ByteArray) (E0 : List Eff), L.length ≤ m → msetL S now pre L E0 = .ok (q, E) → q.k = 1 ∧ E.length ≤ E0.length + 2 * L.length
  | 0, L, pre, E0, hn, h => by
    have : L = [] := by simpa using hn
    subst this
    simp [msetL] at h
    obtain ⟨rfl, rfl⟩ := h
    exact ⟨rfl, by omega⟩
  | m + 1, [], pre, E0, _, h => by
    simp [msetL] at h
    obtain ⟨rfl, rfl⟩ := h
    exact ⟨rfl, by omega⟩
  | m + 1, [x], pre, E0, _, h => by
    simp [msetL] at h
    obtain ⟨rfl, rfl⟩ := h
    exact ⟨rfl, by omega⟩
  | m + 1, k :: s :: L, pre, E0, hn, h => by
    rw [msetL_two] at h
    split at h
    · obtain ⟨h1, h2⟩ := msetL_len m L (pre ++ [k]) _ (by simp at hn; omega) h
      refine ⟨h1, Nat.le_trans h2 ?_⟩
      have key : ∀ D : List Eff, D.length ≤ 1 → (E0 ++ (D ++ [textE k s])).length + 2 * L.length ≤ E0.length + 2 * (k :: s :: L).length := fun D hD => by
        simp only [List.length_append, List.length_cons, List.length_nil]
        omega
      refine key _ ?_
      split
      · exact Nat.zero_le _
      · exact drops_len S k now
    · cases h
theorem fine_mset (f : Few S) (hA : A.length ≤ 20) : Fine S (cMset S now A) := by
  refine Fine.done (fun q E h => ?_) fun q E h => mset_ok f (by omega) h
  unfold cMset inMost at h
  split at h
  · split at h
    · obtain ⟨h1, h2⟩ := msetL_len A.length A [] [] (Nat.le_refl _) h
      exact ⟨by rw [h1]; decide, by simp at h2; omega⟩
    · cases h
  · cases h
theorem fine_names : Fine S (cNames S now A) := Fine.arg0 (Fine.none_ (by show (5 : Int) ≠ 2; decide))
theorem fine_size : Fine S (cSize S now A) := Fine.arg0 (Fine.none_ (by show (3 : Int) ≠ 2; decide))
theorem fine_flush (f : Few S) : Fine S (cFlush S A) := by
  refine Fine.done (fun q E h => ?_) fun q E h => flush_done f h
  unfold cFlush Proofs.YtgmkldaonkbjgaaGreatDoor.arg0 at h
  split at h
  · simp at h
    obtain ⟨rfl, rfl⟩ := h
    have := f.len
    exact ⟨by decide, by simp; omega⟩
  · cases h
end

end Go.Proofs.YtgmkldaonkbjgaaGreatDoor
namespace Go.Proofs.YtgmkldaonkbjgaaGreatDoor
open Go Go.Sx Go.Proofs.YtgmkldaonkbjgaaGreatDoor.C

def itRT (x : Int × Int × ByteArray) : RT := .mk x.1 x.2.1 x.2.2 (.slice none 0 0) []
theorem sl_rt {h : Heap} {v : Value} {l : List (Int × Int × ByteArray)} (hs : SL encQ h v l) : SL encT h v (l.map itRT) := by
  obtain ⟨a, c, rfl, h1, h2⟩ := hs
  refine ⟨a, c, by rw [List.length_map], by rw [List.length_map]; exact h1, ?_⟩
  rw [List.length_map, List.flatMap_map]
  exact h2
theorem oks_rt {h : Heap} : ∀ {l : List (Int × Int × ByteArray)}, RT.oks h (l.map itRT)
  | [] => trivial
  | x :: l => ⟨⟨SL.nil, by simp, trivial⟩, oks_rt⟩

theorem rsameQ_calls {h : Heap} {q : Rep} {v u : Value} (hv : SL encQ h v q.l) (hu : SL encQ h u q.l) (hl : q.l.length ≤ 100000) :
    CallsH Tryz.prog 18 [.agg ⟨[.int .i64 q.k, .int .i64 q.i, .string q.s, v]⟩, .agg ⟨[.int .i64 q.k, .int .i64 q.i, .string q.s, u]⟩] h (Ret fun r h' => r = .bool true ∧ Chg [] h h') := by
  have hc := rsame_calls _ (.mk q.k q.i q.s v (q.l.map itRT)) (.mk q.k q.i q.s u (q.l.map itRT)) h (Nat.lt_succ_self _) ⟨sl_rt hv, by simp; omega, oks_rt⟩ ⟨sl_rt hu, by simp; omega, oks_rt⟩
  have e : RT.same (.mk q.k q.i q.s v (q.l.map itRT)) (.mk q.k q.i q.s u (q.l.map itRT)) = true := by simp [RT.same, RT.sames_refl]
  rw [e] at hc
  exact hc

theorem rsameE_calls {h : Heap} {v u : Value} {E : List Eff} (hv : SL encD h v E) (hu : SL encD h u E) (hE : E.length ≤ 100000) : CallsH Tryz.prog 19 [v, u] h (Ret fun r h' => r = .bool true ∧ h' = h) := by
  obtain ⟨a, c, rfl, _⟩ := hv.form
  obtain ⟨a', c', rfl, _⟩ := hu.form
  refine f19_calls (by simp) ?_
  refine And.intro rfl (And.intro (fun hne => absurd rfl hne) (fun _ => ?_))
  refine loop_intro (fun q : Nat => [(0, .slice a E.length c), (1, .slice a' E.length c'), (5, .int .i64 q)]) (fun q h' => q ≤ E.length ∧ h' = h) (fun q => E.length - q) 0 ⟨rfl, rfl, rfl, trivial⟩ ⟨Nat.zero_le _, rfl⟩ ?_
  rintro q h' ⟨hq, e⟩
  have e := e.symm
  subst e
  refine And.intro rfl (And.intro (fun hlt => ?_) (fun hge => ?_))
  · have hlt : q < E.length := by omega
    obtain ⟨b, o, rfl⟩ := hv.addr (by omega)
    obtain ⟨b', o', rfl⟩ := hu.addr (by omega)
    have hcs := hv.cells encD_len (List.getElem?_eq_getElem hlt)
    have hds := hu.cells encD_len (List.getElem?_eq_getElem hlt)
    refine And.intro (by omega) (And.intro (by omega) (Exists.intro (encD E[q]) (And.intro rfl (And.intro hcs ?_))))
    refine And.intro (by omega) (And.intro (by omega) (Exists.intro (encD E[q]) (And.intro rfl (And.intro hds ?_))))
    refine And.intro rfl (And.intro rfl (And.intro (fun _ => ?_) (fun hne => absurd rfl hne)))
    refine And.intro rfl (fun z hz => ?_)
    have hz := add_in hz (by omega) (by omega)
    subst hz
    exact And.intro rfl (Exists.intro (q + 1) (And.intro ⟨rfl, rfl, rfl, trivial⟩ (And.intro ⟨hlt, rfl⟩ (by omega))))
  · exact And.intro rfl rfl

theorem getPr8 {w : List RX} {k : Nat} (hk : k < (w.map RX.pr).length) (hk' : k < w.length) : (w.map RX.pr)[k] = (w[k].key, w[k].thing) := by
  rw [List.getElem_map]; rfl

theorem w8same_calls {h : Heap} {kb sb mb c : Nat} {m : List KI} {v : Value} {w0 : List RX} (kr : KR h kb sb mb c m) (hv : SL encX h v w0) (g : GX h w0) (hW : Sorted m (w0.map RX.pr)) (hl : w0.length ≤ 65536) :
    CallsH Tryz.prog 20 [ptr kb, v] h (Ret fun r h' => r = .bool true ∧ Chg [] h h') := by
  have hlens : ∀ x ∈ w0, Lens x.thing := by
    intro x hx
    obtain ⟨i, hi, hip⟩ := List.mem_map.1 ((hW.mem x.pr).1 (List.mem_map_of_mem hx))
    have : i.thing = x.thing := congrArg Prod.snd hip
    rw [← this]; exact (kr.here i hi).2.2
  obtain ⟨a, cc, rfl, hcc⟩ := hv.form
  refine f20_calls (by simp) ?_
  intro b3 h1 g1
  have w := (St.start h).new g1
  intro b4 h2 g2
  have w := w.new g2
  intro b5 h3 g3
  have w := w.new g3
  refine w.st1 0 rfl rfl rfl rfl fun h4 w => ?_
  refine call_ret (All_calls (kb := kb)) ?_
  rintro _ h5 ⟨bI, rfl, g5⟩
  have w : St [] h h5 [.b bI [ptr kb], .b b5 [.int .i64 0], .b b4 [.bool false], .b b3 [.slice a w0.length cc]] := w.new g5
  intro l D r h7 hD hl7 hsz hold hmark hloop hy
  have hc7 : Chg [] h5 h7 := ⟨by omega, fun k hk _ => hold k hk⟩
  have hne : D ≠ l := by omega
  have w := w.add (e := lpE l D r .ready) hc7 ⟨hloop, hmark⟩ (fun b hb => by simp [lpE, En.fp] at hb; omega)
  refine (iter_calls hW (fun p k h' => St [] h h' [ltE p, lpE l D r .ready, .b bI [ptr kb], .b b5 [.int .i64 k], .b b4 [.bool false], .b b3 [.slice a w0.length cc]]) (fun _ => False) (w.get 1 rfl) (kr.ext w.chg)
    (fun p h' hp1 hp2 hc => w.add (e := ltE p) hc hp2 (fun b hb => by simp [ltE, En.fp] at hb; omega)) (fun p k h' w => ⟨w.get 2 rfl, kr.ext w.chg⟩) (fun p k h' h'' w hc => w.ext hc) (fun p k h' us hk w tu => ?_)).mono ?_
  · have hkw : k < w0.length := by simpa using hk
    rw [getPr8 hk hkw] at tu ⊢
    have hlp := w.get 0 rfl
    have w := w.set (e' := fixE p h'[p]?) 0 rfl (Chg.refl _) (by simp) ⟨hlp, rfl⟩ (fun b hb => .inl hb)
    refine hy h' _ _ (w.get 1 rfl).1 rfl ?_
    intro b8 h8 g8
    refine Exists.intro _ (And.intro g8.blk (And.intro (by decide) (And.intro tu.len (And.intro (thing_one tu) ?_))))
    intro h9 p9
    have g9 : Grow h' h9 b8 (splice zeroV 0 us) := g8.put p9
    rw [seven rfl tu.len] at g9
    have w := w.new g9
    have tu9 : TH h9 us w0[k].thing := tu.ext g9.chg
    have L9 := (w.get 2 rfl).1
    refine And.intro L9 (fun h10 t10 => ?_)
    have w := w.turn 2 rfl hne t10
    have tu10 : TH h10 us w0[k].thing := tu9.ch (turn_ch L9 t10)
    have hv10 := hv.ext w.chg
    have hx10 := (g.ext w.chg) w0[k] (List.getElem_mem hkw)
    obtain ⟨b, o, rfl⟩ := hv10.addr (by omega)
    have hcs := hv10.cells encX_len (i := k) (x := w0[k]) (by simp [hkw])
    refine w.ld1 4 rfl rfl ?_
    refine w.ld1 6 rfl rfl ?_
    refine And.intro rfl (And.intro (fun hge => absurd hge (by omega)) (fun _ => ?_))
    refine w.ld1 6 rfl rfl ?_
    refine w.ld1 4 rfl rfl ?_
    refine And.intro (by omega) (And.intro (by omega) (Exists.intro _ (And.intro (hcs 0 _ rfl) ?_)))
    refine And.intro (fun hne => absurd rfl hne) (fun _ => ?_)
    refine Exists.intro us (And.intro tu10.len (And.intro (cells_blk (w.get 0 rfl)) ?_))
    refine w.ld1 6 rfl rfl ?_
    refine w.ld1 4 rfl rfl ?_
    refine And.intro (by omega) (And.intro (by omega) (Exists.intro w0[k].vs (And.intro w0[k].len (And.intro (cells_vs hcs) ?_))))
    have hfk := (hlens w0[k] (List.getElem_mem hkw)).fits
    refine call_ret (RSame_calls tu10 hx10 hfk hfk) ?_
    rintro r11 h11 ⟨hr11, c11⟩
    rw [decide_eq_true rfl] at hr11
    subst hr11
    have w := w.ext c11
    refine w.ld1 4 rfl rfl ?_
    refine And.intro rfl (fun z hz => ?_)
    have hz := add_in hz (by omega) (by omega)
    subst hz
    refine w.st1 4 rfl rfl rfl rfl fun h12 w => ?_
    refine And.intro (w.get 2 rfl).1 (fun h13 t13 => ?_)
    have w := w.turn 2 rfl hne t13
    have hfx := w.get 1 rfl
    have w := (w.pick [1, 2, 3, 4, 5, 6] (by decide))
    have w := w.set (e' := ltE p) 0 rfl (Chg.refl _) (by simp) hfx.1 (fun b hb => .inl hb)
    exact .inl ⟨rfl, w, hfx.2⟩
  · intro e h8 he
    cases e with
    | panicked ch => exact he.elim
    | outgrown => exact he.elim
    | returned u =>
      obtain ⟨p, w⟩ | hF := he
      rotate_left
      · exact hF.elim
      refine ⟨.ready, none, (w.get 1 rfl).1, by simp, fun h9 t9 => ?_⟩
      have w := w.turn 1 rfl hne t9
      refine w.ld1 3 rfl rfl ?_
      refine w.ld1 5 rfl rfl ?_
      refine And.intro rfl (And.intro (fun _ => ?_) (fun hne => absurd (by simp) hne))
      refine w.st1 4 rfl rfl rfl rfl fun h10 w => ?_
      refine And.intro (w.get 1 rfl).2 (fun h11 p11 => ?_)
      have w := w.gone 1 rfl p11.chg (fun b hb => .inl (by simp at hb; simp [lpE, En.fp, hb]))
      refine Exists.intro _ (And.intro (cell_blk (w.get 4 rfl) rfl) ?_)
      exact And.intro rfl w.chg

def outR : Res → Rep × List Eff
  | .ok p => p
  | .error why => (rep 2 0 why, [])
theorem DoR.out {h h' : Heap} {r : Value} {res : Res} (x : DoR h res r h') : Chg [] h h' ∧ ∃ ra rn rc la lc, r = .tuple ⟨[.agg ⟨[.int .i64 (outR res).1.k, .int .i64 (outR res).1.i, .string (outR res).1.s, .slice ra rn rc]⟩, .slice la (outR res).2.length lc, .bool true]⟩ ∧
    SL encQ h' (.slice ra rn rc) (outR res).1.l ∧ SL encD h' (.slice la (outR res).2.length lc) (outR res).2 := by
  obtain ⟨c, x⟩ := x
  cases res with
  | error why =>
    have x : r = .tuple ⟨[repV 2 0 why, .slice none 0 0, .bool true]⟩ := x
    subst x
    exact ⟨c, none, 0, 0, none, 0, rfl, SL.nil, SL.nil⟩
  | ok p =>
    obtain ⟨q, E⟩ := p
    obtain ⟨v, lv, rfl, ⟨ra, rn, rc, rfl, hq, _⟩, hs, _⟩ := x
    obtain ⟨la, lc, rfl, _⟩ := hs.form
    exact ⟨c, ra, rn, rc, la, lc, rfl, hq, hs⟩

def Short (res : Res) : Prop := (outR res).1.l.length ≤ 100000 ∧ (outR res).2.length ≤ 100000

def ByP (now : Int) (AA : List ByteArray) (res : Space → Res) : Prop := ∀ {h : Heap} {kb sb mb c : Nat} {m : List KI} {S : Space} {av : Value}, KR h kb sb mb c m → Sorted m S → S8 S → LaidN h → SL encS h av AA → CallsH Tryz.prog 11 [ptr kb, .int .i64 now, av] h (Ret (DoR h (res S)))
def ByR (now : Int) (AA : List ByteArray) (res : Space → Res) : Prop := ∀ {h : Heap} {kv av : Value} {k : List RX}, SL encX h kv k → GX h k → UpX k → k.length ≤ 20 → KeysFit k → S8 (k.map RX.pr) → LaidN h → SL encS h av AA → CallsH Tryz.prog 17 [kv, .int .i64 now, av] h (Ret (DoR h (res (k.map RX.pr))))

theorem does_calls {h : Heap} {v av : Value} {l : List RX} {now : Int} {AA : List ByteArray} {res : Space → Res} (hv : SL encX h v l) (g : GX h l) (nv : NVast l) (hun : ∀ x ∈ l, In64 x.thing.unt) (hla : LaidN h) (hA : SL encS h av AA) (hp : ByP now AA res) (hr : ByR now AA res)
    (hsh : ∀ S, S8 S → Short (res S)) : CallsH Tryz.prog 9 [v, .int .i64 now, av] h (Ret fun r h' => r = .bool true ∧ Chg [] h h') := by
  refine f9_calls (by simp) ?_
  refine call_ret (KOf_calls hv g nv) ?_
  rintro r1 h1 ⟨c1, ho⟩
  cases hk2 : ofX [] l with
  | none =>
    rw [hk2] at ho
    subst ho
    refine call_ret (ROf_calls (hv.ext c1) (g.ext c1) nv) ?_
    rintro r2 h2 ⟨c2, hr2⟩
    have c02 := c1.nil c2
    rw [hk2] at hr2
    subst hr2
    refine And.intro rfl (And.intro (fun _ => ?_) (fun hne => absurd (by decide) hne))
    refine And.intro rfl (And.intro (fun _ => ?_) (fun hne => absurd rfl hne))
    exact And.intro rfl c02
  | some k =>
    rw [hk2] at ho
    obtain ⟨kb, sb, mb, c, m, rfl, kr, hpr, hmb⟩ := ho
    refine call_ret (ROf_calls (hv.ext c1) (g.ext c1) nv) ?_
    rintro r2 h2 ⟨c2, hr2⟩
    have c02 := c1.nil c2
    rw [hk2] at hr2
    obtain ⟨w, rfl, hw, hwb⟩ := hr2
    have hW := sorted_of hpr hk2
    obtain ⟨hup, hmem, hkl⟩ := ofX_ok List.Pairwise.nil hk2
    have hnl := nv.len
    have hkl : k.length = l.length := by simpa using hkl
    have hkf : KeysFit k := fun x hx => nv.fit x (by simpa using (hmem x).1 hx)
    have gk : GX h2 k := fun x hx => (g.ext c02) x (by simpa using (hmem x).1 hx)
    have s8 := s8_of nv hk2 hun
    have hsh := hsh _ s8
    refine And.intro rfl (And.intro (fun hne => absurd rfl hne) (fun _ => ?_))
    refine And.intro rfl (And.intro (fun hne => absurd rfl hne) (fun _ => ?_))
    refine call_ret (hp (kr.ext c2) hW s8 (hla.ext c02) (hA.ext c02)) ?_
    rintro r3 h3 h3r
    obtain ⟨c3, ra, rn, rc, la, lc, rfl, hq, hE⟩ := h3r.out
    intro b11 h4 g4
    have u := (St.start h3).new g4
    refine u.st1 0 rfl rfl rfl rfl fun h5 u => ?_
    have c25 := c3.nil u.chg
    refine call_ret (hr (hw.sl.ext c25) (gk.ext c25) hup (by omega) hkf s8 (hla.ext (c02.nil c25)) (hA.ext (c02.nil c25))) ?_
    rintro r6 h6 h6r
    obtain ⟨c6, ra', rn', rc', la', lc', rfl, hq', hE'⟩ := h6r.out
    have u := u.ext c6
    intro b14 h7 g7
    have u := u.new g7
    have z7 := (St.start h6).new g7
    refine u.st2 0 rfl rfl rfl rfl fun h8 u k8 => ?_
    have c68 : Chg [] h6 h8 := g7.chg.fresh k8 (by simp; have := g7.id; omega)
    refine And.intro (fun _ => ?_) (fun hne => absurd rfl hne)
    refine u.ldw 1 rfl rfl ?_
    refine u.ldw 0 rfl rfl ?_
    refine call_ret (rsameQ_calls (hq.ext u.chg) (hq'.ext c68) hsh.1) ?_
    rintro _ h9 ⟨rfl, c9⟩
    have u := u.ext c9
    refine call_ret (rsameE_calls (hE.ext u.chg) (hE'.ext (c68.nil c9)) hsh.2) ?_
    rintro _ h10 ⟨rfl, e10⟩
    have e10 := e10.symm
    subst e10
    have c2f := c3.nil u.chg
    refine call_ret (w8same_calls ((kr.ext c2).ext c2f) (hw.sl.ext c2f) (gk.ext c2f) hW (by omega)) ?_
    rintro _ h11 ⟨rfl, c11⟩
    exact And.intro rfl ((c02.nil c2f).nil c11)

end Go.Proofs.YtgmkldaonkbjgaaGreatDoor
namespace Go.Proofs.YtgmkldaonkbjgaaGreatDoor
open Go Go.Sx Go.Proofs.YtgmkldaonkbjgaaGreatDoor.C

def nDEL : ByteArray := ⟨#[68, 69, 76]⟩
def nEXI : ByteArray := ⟨#[69, 88, 73, 83, 84, 83]⟩
def nMGE : ByteArray := ⟨#[77, 71, 69, 84]⟩
def nMSE : ByteArray := ⟨#[77, 83, 69, 84]⟩
def nKEY : ByteArray := ⟨#[75, 69, 89, 83]⟩
def nDBS : ByteArray := ⟨#[68, 66, 83, 73, 90, 69]⟩
def nFLU : ByteArray := ⟨#[70, 76, 85, 83, 72, 65, 76, 76]⟩

section
variable {h0 h h1 h' : Heap} {xb i b4 : Nat} {now n : Int} {kv av lv : Value} {k : List RX} {A B : List ByteArray} {L E : List Eff} {why key s : ByteArray} {M : List En} {T : List Nat} {res : Res} {ls : List (Int × Int × ByteArray)}

theorem rsize_calls (c : RC h0 kv k av A) (rg : RG k) (x : As h0 h (rxE xb kv now av lv [] noText)) : CallsH Tryz.prog 91 [ptr xb, .string nDBS] h
    (Ret (ReplyR h0 h xb kv now av lv (.ok (numR (liveS now (k.map RX.pr)).length, [])))) := by
  refine f91_calls (by simp) ?_
  intro b4 h1 g1
  have w := x.st.new g1
  refine w.ldr 1 rfl rfl ?_
  refine w.ldr 1 rfl rfl ?_
  refine call_ret (RNames_calls now (c.sl.ext (x.base w)) (c.gx.ext (x.base w)) rg) ?_
  rintro r h2 ⟨ho, hf, c2⟩
  obtain ⟨a, cc, rfl, _⟩ := ho.form
  have w := w.ext c2
  refine And.intro (fun _ => ?_) (fun h9 => absurd rfl h9)
  refine w.callv rInt_calls fun h3 w => ?_
  refine w.st1 0 rfl rfl rfl rfl fun h4 w => ?_
  exact ReplyR.fin (j := 0) x w 0 1 rfl rfl (Jd.ok rfl)

theorem rflush_calls (c : RC h0 kv k av A) (rg : RG k) (x : As h0 h (rxE xb kv now av lv [] noText)) : CallsH Tryz.prog 91 [ptr xb, .string nFLU] h
    (Ret (ReplyR h0 h xb kv now av lv (.ok (okR, (k.map RX.pr).map fun p => goneE p.1)))) := by
  have hkl := rg.len
  obtain ⟨ka, kc, rfl, _⟩ := c.sl.form
  refine f91_calls (by simp) ?_
  intro b4 h1 g1
  have w := x.st.new g1
  refine w.ldr 1 rfl rfl ?_
  refine w.ldr 1 rfl rfl ?_
  refine call_ret (RNames_calls now (c.sl.ext (x.base w)) (c.gx.ext (x.base w)) rg) ?_
  rintro r h2 ⟨ho, hf, c2⟩
  have w := w.ext c2
  refine And.intro (fun h9 => absurd h9 (by decide)) (fun _ => ?_)
  refine And.intro (fun _ => ?_) (fun h9 => absurd rfl h9)
  refine loop_intro (fun q : Nat => [(0, ptr xb), (4, ptr b4), (6, .int .i64 q)])
    (fun q h' => q ≤ k.length ∧ ∃ lv', St (xb :: vblk lv) h h' [.b b4 [.int .i64 0, .int .i64 0, .string ⟨#[]⟩, .slice none 0 0], rxE xb (.slice ka k.length kc) now av lv' ((k.take q).map fun y => goneE y.key) noText]) (fun q => k.length - q) 0 ⟨rfl, rfl, rfl, trivial⟩ ⟨Nat.zero_le _, lv, w⟩ ?_
  rintro q h3 ⟨hq, lv', w⟩
  refine w.ldr 1 rfl rfl ?_
  refine And.intro rfl (And.intro (fun hlt => ?_) (fun hge => ?_))
  · have hlt : q < k.length := by omega
    have hmp := take_map (fun y : RX => goneE y.key) k q hlt
    have hln : ((k.take q).map fun y : RX => goneE y.key).length ≤ 65536 := by simp; omega
    obtain ⟨b, o, rfl⟩ := c.sl.addr (by omega)
    have hcs := (c.sl.ext (x.base w)).cells encX_len (i := q) (x := k[q]) (by simp [hlt])
    obtain ⟨la, lc, rfl⟩ := w.rform 1 rfl
    refine w.ldr 1 rfl rfl ?_
    refine w.ldr 1 rfl rfl ?_
    refine And.intro (by omega) (And.intro (by omega) (Exists.intro _ (And.intro (hcs 0 _ rfl) ?_)))
    intro b8 h4 g4
    have w := w.new g4
    refine w.rapp 2 rfl rfl (one_sl (e := goneE k[q].key) (w.get 0 rfl)) (by simp only [List.length_cons, List.length_nil]; omega) fun a5 c5 h5 hst => ?_
    refine hst fun h6 w => ?_
    have w := w.pick [1, 2] (by decide)
    rw [← hmp] at w
    refine And.intro rfl (fun z hz => ?_)
    have hz := add_in hz (by omega) (by omega)
    subst hz
    exact And.intro rfl (Exists.intro (q + 1) (And.intro ⟨rfl, rfl, rfl, trivial⟩ (And.intro ⟨hlt, _, w⟩ (by omega))))
  · have hkl : q = k.length := by omega
    subst hkl
    refine w.callv rStatus_calls fun h5 w => ?_
    refine w.st1 0 rfl rfl rfl rfl fun h6 w => ?_
    exact ReplyR.fin (j := 0) x w 0 1 rfl rfl (Jd.ok (by rw [List.take_length, List.map_map]; rfl))

theorem rnames_calls (c : RC h0 kv k av A) (rg : RG k) (x : As h0 h (rxE xb kv now av lv [] noText)) : CallsH Tryz.prog 91 [ptr xb, .string nKEY] h
    (Ret (ReplyR h0 h xb kv now av lv (.ok (⟨5, 0, noText, (liveS now (k.map RX.pr)).map fun s => (4, 0, s)⟩, [])))) := by
  have hkl := rg.len
  refine f91_calls (by simp) ?_
  intro b4 h1 g1
  have w := x.st.new g1
  refine w.ldr 1 rfl rfl ?_
  refine w.ldr 1 rfl rfl ?_
  refine call_ret (RNames_calls now (c.sl.ext (x.base w)) (c.gx.ext (x.base w)) rg) ?_
  rintro r h2 ⟨ho, hf, c2⟩
  have hll : (liveS now (k.map RX.pr)).length ≤ 65536 := by
    have := liveS_len (now := now) (S := k.map RX.pr)
    simp at this; omega
  obtain ⟨nl, hnl⟩ : ∃ nl, nl = liveS now (k.map RX.pr) := ⟨_, rfl⟩
  rw [← hnl] at ho hll ⊢
  have w := w.add (e := .o encS 1 r nl) c2 ho hf
  obtain ⟨a, cc, rfl, _⟩ := ho.form
  refine And.intro (fun h9 => absurd h9 (by decide)) (fun _ => ?_)
  refine And.intro (fun h9 => absurd h9 (by decide)) (fun _ => ?_)
  intro b7 h3 g3
  have w := w.new g3
  refine w.st1 0 rfl rfl rfl rfl fun h4 w => ?_
  have w := w.empty (enc := encQ) (size := 4)
  refine loop_intro (fun q : Nat => [(0, ptr xb), (4, ptr b4), (5, .slice a nl.length cc), (7, ptr b7), (8, .int .i64 q)])
    (fun q h' => q ≤ nl.length ∧ ∃ v, St (xb :: vblk lv) h h' [.o encQ 4 v ((nl.take q).map fun s => (4, 0, s)), .b b7 [.int .i64 5, .int .i64 0, .string ⟨#[]⟩, v], .o encS 1 (.slice a nl.length cc) nl, .b b4 [.int .i64 0, .int .i64 0, .string ⟨#[]⟩, .slice none 0 0], rxE xb kv now av lv [] noText])
    (fun q => nl.length - q) 0 ⟨rfl, rfl, rfl, rfl, rfl, trivial⟩ ⟨Nat.zero_le _, .slice none 0 0, w⟩ ?_
  rintro q h5 ⟨hq, v, w⟩
  obtain ⟨a3, c3, rfl, _⟩ := (show OL encQ 4 h5 v ((nl.take q).map fun s => (4, 0, s)) from w.get 0 rfl).sl.form
  have hsl : SL encS h5 (.slice a nl.length cc) nl := (show OL encS 1 h5 (.slice a nl.length cc) nl from w.get 2 rfl).sl
  refine And.intro rfl (And.intro (fun hlt => ?_) (fun hge => ?_))
  · have hlt : q < nl.length := by omega
    have hmp := take_map (fun s : ByteArray => ((4 : Int), (0 : Int), s)) nl q hlt
    have hln : ((nl.take q).map fun s : ByteArray => ((4 : Int), (0 : Int), s)).length ≤ 65536 := by simp; omega
    obtain ⟨b, o, rfl⟩ := hsl.addr (by omega)
    have hcs := hsl.cells encS_len (List.getElem?_eq_getElem hlt)
    refine w.ld1 1 rfl rfl ?_
    refine And.intro (by omega) (And.intro (by omega) (Exists.intro _ (And.intro (by simpa using hcs 0 _ rfl) ?_)))
    refine w.callqv rText_calls fun h6 w => ?_
    intro b10 h7 g7
    have w := w.new g7
    refine w.app 1 rfl encQ_len encQ_one rfl (SL.one encQ_len (x := (4, 0, nl[q])) (w.get 0 rfl)) (by simp only [List.length_cons, List.length_nil]; omega) fun v' h8 w => ?_
    rw [← hmp] at w
    obtain ⟨a6, c6, rfl, _⟩ := (show OL encQ 4 h8 v' ((nl.take (q + 1)).map fun s => (4, 0, s)) from w.get 1 rfl).sl.form
    refine w.st1 2 rfl rfl rfl rfl fun h9 w => ?_
    have w := w.pick [1, 2, 3, 4, 5] (by decide)
    refine And.intro rfl (fun z hz => ?_)
    have hz := add_in hz (by omega) (by omega)
    subst hz
    exact And.intro rfl (Exists.intro (q + 1) (And.intro ⟨rfl, rfl, rfl, rfl, rfl, trivial⟩ (And.intro ⟨hlt, _, w⟩ (by omega))))
  · have hkl : q = nl.length := by omega
    subst hkl
    refine w.ldw 1 rfl rfl ?_
    refine w.st1 3 rfl rfl rfl rfl fun h4 w => ?_
    exact ReplyR.finl x w 3 4 0 rfl rfl rfl (own_fresh (lv' := lv) w 0 4 rfl rfl (by decide)) (Jd.ok (by rw [List.take_length]))
end

theorem rbounds_nDEL : BoundR nDEL 1 65536 := fun h => by
  refine f35_calls (by simp) ?_
  refine And.intro (fun h9 => absurd h9 (by decide)) (fun _ => ?_)
  refine And.intro (fun h9 => absurd h9 (by decide)) (fun _ => ?_)
  refine And.intro (fun h9 => absurd h9 (by decide)) (fun _ => ?_)
  refine And.intro (fun h9 => absurd h9 (by decide)) (fun _ => ?_)
  refine And.intro (fun h9 => absurd h9 (by decide)) (fun _ => ?_)
  refine And.intro (fun h9 => absurd h9 (by decide)) (fun _ => ?_)
  refine And.intro (fun h9 => absurd h9 (by decide)) (fun _ => ?_)
  refine And.intro (fun h9 => absurd h9 (by decide)) (fun _ => ?_)
  refine And.intro (fun _ => ?_) (fun h9 => absurd rfl h9)
  exact ⟨rfl, rfl⟩
theorem rbounds_nEXI : BoundR nEXI 1 65536 := fun h => by
  refine f35_calls (by simp) ?_
  refine And.intro (fun h9 => absurd h9 (by decide)) (fun _ => ?_)
  refine And.intro (fun h9 => absurd h9 (by decide)) (fun _ => ?_)
  refine And.intro (fun h9 => absurd h9 (by decide)) (fun _ => ?_)
  refine And.intro (fun h9 => absurd h9 (by decide)) (fun _ => ?_)
  refine And.intro (fun h9 => absurd h9 (by decide)) (fun _ => ?_)
  refine And.intro (fun h9 => absurd h9 (by decide)) (fun _ => ?_)
  refine And.intro (fun h9 => absurd h9 (by decide)) (fun _ => ?_)
  refine And.intro (fun h9 => absurd h9 (by decide)) (fun _ => ?_)
  refine And.intro (fun h9 => absurd h9 (by decide)) (fun _ => ?_)
  refine And.intro (fun _ => ?_) (fun h9 => absurd rfl h9)
  exact ⟨rfl, rfl⟩
theorem rbounds_nMGE : BoundR nMGE 1 65536 := fun h => by
  refine f35_calls (by simp) ?_
  refine And.intro (fun h9 => absurd h9 (by decide)) (fun _ => ?_)
  refine And.intro (fun h9 => absurd h9 (by decide)) (fun _ => ?_)
  refine And.intro (fun h9 => absurd h9 (by decide)) (fun _ => ?_)
  refine And.intro (fun h9 => absurd h9 (by decide)) (fun _ => ?_)
  refine And.intro (fun h9 => absurd h9 (by decide)) (fun _ => ?_)
  refine And.intro (fun h9 => absurd h9 (by decide)) (fun _ => ?_)
  refine And.intro (fun h9 => absurd h9 (by decide)) (fun _ => ?_)
  refine And.intro (fun h9 => absurd h9 (by decide)) (fun _ => ?_)
  refine And.intro (fun h9 => absurd h9 (by decide)) (fun _ => ?_)
  refine And.intro (fun h9 => absurd h9 (by decide)) (fun _ => ?_)
  refine And.intro (fun _ => ?_) (fun h9 => absurd rfl h9)
  exact ⟨rfl, rfl⟩
theorem rbounds_nMSE : BoundR nMSE 2 65536 := fun h => by
  refine f35_calls (by simp) ?_
  refine And.intro (fun h9 => absurd h9 (by decide)) (fun _ => ?_)
  refine And.intro (fun h9 => absurd h9 (by decide)) (fun _ => ?_)
  refine And.intro (fun h9 => absurd h9 (by decide)) (fun _ => ?_)
  refine And.intro (fun h9 => absurd h9 (by decide)) (fun _ => ?_)
  refine And.intro (fun h9 => absurd h9 (by decide)) (fun _ => ?_)
  refine And.intro (fun h9 => absurd h9 (by decide)) (fun _ => ?_)
  refine And.intro (fun h9 => absurd h9 (by decide)) (fun _ => ?_)
  refine And.intro (fun h9 => absurd h9 (by decide)) (fun _ => ?_)
  refine And.intro (fun h9 => absurd h9 (by decide)) (fun _ => ?_)
  refine And.intro (fun h9 => absurd h9 (by decide)) (fun _ => ?_)
  refine And.intro (fun h9 => absurd h9 (by decide)) (fun _ => ?_)
  refine And.intro (fun _ => ?_) (fun h9 => absurd rfl h9)
  exact ⟨rfl, rfl⟩
theorem rbounds_nKEY : BoundR nKEY 0 0 := fun h => by
  refine f35_calls (by simp) ?_
  refine And.intro (fun h9 => absurd h9 (by decide)) (fun _ => ?_)
  refine And.intro (fun h9 => absurd h9 (by decide)) (fun _ => ?_)
  refine And.intro (fun h9 => absurd h9 (by decide)) (fun _ => ?_)
  refine And.intro (fun h9 => absurd h9 (by decide)) (fun _ => ?_)
  refine And.intro (fun h9 => absurd h9 (by decide)) (fun _ => ?_)
  refine And.intro (fun h9 => absurd h9 (by decide)) (fun _ => ?_)
  refine And.intro (fun h9 => absurd h9 (by decide)) (fun _ => ?_)
  refine And.intro (fun h9 => absurd h9 (by decide)) (fun _ => ?_)
  refine And.intro (fun h9 => absurd h9 (by decide)) (fun _ => ?_)
  refine And.intro (fun h9 => absurd h9 (by decide)) (fun _ => ?_)
  refine And.intro (fun h9 => absurd h9 (by decide)) (fun _ => ?_)
  refine And.intro (fun h9 => absurd h9 (by decide)) (fun _ => ?_)
  refine And.intro (fun h9 => absurd h9 (by decide)) (fun _ => ?_)
  refine And.intro (fun h9 => absurd h9 (by decide)) (fun _ => ?_)
  refine And.intro (fun h9 => absurd h9 (by decide)) (fun _ => ?_)
  refine And.intro (fun _ => ?_) (fun h9 => absurd rfl h9)
  exact ⟨rfl, rfl⟩
theorem rbounds_nDBS : BoundR nDBS 0 0 := fun h => by
  refine f35_calls (by simp) ?_
  refine And.intro (fun h9 => absurd h9 (by decide)) (fun _ => ?_)
  refine And.intro (fun h9 => absurd h9 (by decide)) (fun _ => ?_)
  refine And.intro (fun h9 => absurd h9 (by decide)) (fun _ => ?_)
  refine And.intro (fun h9 => absurd h9 (by decide)) (fun _ => ?_)
  refine And.intro (fun h9 => absurd h9 (by decide)) (fun _ => ?_)
  refine And.intro (fun h9 => absurd h9 (by decide)) (fun _ => ?_)
  refine And.intro (fun h9 => absurd h9 (by decide)) (fun _ => ?_)
  refine And.intro (fun h9 => absurd h9 (by decide)) (fun _ => ?_)
  refine And.intro (fun h9 => absurd h9 (by decide)) (fun _ => ?_)
  refine And.intro (fun h9 => absurd h9 (by decide)) (fun _ => ?_)
  refine And.intro (fun h9 => absurd h9 (by decide)) (fun _ => ?_)
  refine And.intro (fun h9 => absurd h9 (by decide)) (fun _ => ?_)
  refine And.intro (fun h9 => absurd h9 (by decide)) (fun _ => ?_)
  refine And.intro (fun h9 => absurd h9 (by decide)) (fun _ => ?_)
  refine And.intro (fun h9 => absurd h9 (by decide)) (fun _ => ?_)
  refine And.intro (fun h9 => absurd h9 (by decide)) (fun _ => ?_)
  refine And.intro (fun _ => ?_) (fun h9 => absurd rfl h9)
  exact ⟨rfl, rfl⟩
theorem rbounds_nFLU : BoundR nFLU 0 0 := fun h => by
  refine f35_calls (by simp) ?_
  refine And.intro (fun h9 => absurd h9 (by decide)) (fun _ => ?_)
  refine And.intro (fun h9 => absurd h9 (by decide)) (fun _ => ?_)
  refine And.intro (fun h9 => absurd h9 (by decide)) (fun _ => ?_)
  refine And.intro (fun h9 => absurd h9 (by decide)) (fun _ => ?_)
  refine And.intro (fun h9 => absurd h9 (by decide)) (fun _ => ?_)
  refine And.intro (fun h9 => absurd h9 (by decide)) (fun _ => ?_)
  refine And.intro (fun h9 => absurd h9 (by decide)) (fun _ => ?_)
  refine And.intro (fun h9 => absurd h9 (by decide)) (fun _ => ?_)
  refine And.intro (fun h9 => absurd h9 (by decide)) (fun _ => ?_)
  refine And.intro (fun h9 => absurd h9 (by decide)) (fun _ => ?_)
  refine And.intro (fun h9 => absurd h9 (by decide)) (fun _ => ?_)
  refine And.intro (fun h9 => absurd h9 (by decide)) (fun _ => ?_)
  refine And.intro (fun h9 => absurd h9 (by decide)) (fun _ => ?_)
  refine And.intro (fun h9 => absurd h9 (by decide)) (fun _ => ?_)
  refine And.intro (fun h9 => absurd h9 (by decide)) (fun _ => ?_)
  refine And.intro (fun h9 => absurd h9 (by decide)) (fun _ => ?_)
  refine And.intro (fun h9 => absurd h9 (by decide)) (fun _ => ?_)
  refine And.intro (fun _ => ?_) (fun h9 => absurd rfl h9)
  exact ⟨rfl, rfl⟩

section
variable {h0 h : Heap} {xb : Nat} {now : Int} {kv av lv : Value} {k : List RX} {A : List ByteArray}
theorem rreply_nDEL (c : RC h0 kv k av A) (x : As h0 h (rxE xb kv now av lv [] noText)) (hA : ∀ a ∈ A, a.size < 281474976710656) (hl : A.length ≤ 65536) : CallsH Tryz.prog 38 [ptr xb, .string nDEL] h (Ret (ReplyR h0 h xb kv now av lv (.ok (numR (delL (k.map RX.pr) now [] A).length, delL (k.map RX.pr) now [] A)))) := by
  refine f38_calls (by simp) ?_
  intro b4 h1 g1
  have i1 := g1.id
  have z1 := g1.size
  have w := x.st.new g1
  refine And.intro (fun h9 => absurd h9 (by decide)) (fun _ => ?_)
  refine And.intro (fun h9 => absurd h9 (by decide)) (fun _ => ?_)
  refine And.intro (fun h9 => absurd h9 (by decide)) (fun _ => ?_)
  refine And.intro (fun h9 => absurd h9 (by decide)) (fun _ => ?_)
  refine And.intro (fun _ => ?_) (fun h9 => absurd rfl h9)
  refine And.intro (fun _ => ?_) (fun h9 => absurd rfl h9)
  refine call_ret (rdel_calls c (x.out w 1 rfl).1 hA hl) ?_
  rintro _ h3 ⟨q, lv', E, why, ⟨ra, rn, rc, rfl, sl, fr⟩, ⟨_, o3⟩, hd⟩
  have w := w.own 1 rfl o3
  refine w.st2 0 rfl rfl rfl rfl fun h4 w k4 => ?_
  exact ⟨_, rfl, cells_blk (w.get 0 rfl), q, lv', E, why, ⟨ra, rn, rc, rfl, sl.chg k4 (fun b hb => by have := fr b hb; simp; omega), fun b hb => by have := fr b hb; omega⟩, x.out w 1 rfl, hd⟩
theorem rreply_nEXI (c : RC h0 kv k av A) (x : As h0 h (rxE xb kv now av lv [] noText)) (hA : ∀ a ∈ A, a.size < 281474976710656) (hl : A.length ≤ 65536) : CallsH Tryz.prog 38 [ptr xb, .string nEXI] h (Ret (ReplyR h0 h xb kv now av lv (.ok (numR (A.countP (here (k.map RX.pr) now)), [])))) := by
  refine f38_calls (by simp) ?_
  intro b4 h1 g1
  have i1 := g1.id
  have z1 := g1.size
  have w := x.st.new g1
  refine And.intro (fun h9 => absurd h9 (by decide)) (fun _ => ?_)
  refine And.intro (fun h9 => absurd h9 (by decide)) (fun _ => ?_)
  refine And.intro (fun h9 => absurd h9 (by decide)) (fun _ => ?_)
  refine And.intro (fun h9 => absurd h9 (by decide)) (fun _ => ?_)
  refine And.intro (fun h9 => absurd h9 (by decide)) (fun _ => ?_)
  refine And.intro (fun _ => ?_) (fun h9 => absurd rfl h9)
  refine And.intro (fun h9 => absurd h9 (by decide)) (fun _ => ?_)
  refine call_ret (rexi_calls c (x.out w 1 rfl).1 hA hl) ?_
  rintro _ h3 ⟨q, lv', E, why, ⟨ra, rn, rc, rfl, sl, fr⟩, ⟨_, o3⟩, hd⟩
  have w := w.own 1 rfl o3
  refine w.st2 0 rfl rfl rfl rfl fun h4 w k4 => ?_
  exact ⟨_, rfl, cells_blk (w.get 0 rfl), q, lv', E, why, ⟨ra, rn, rc, rfl, sl.chg k4 (fun b hb => by have := fr b hb; simp; omega), fun b hb => by have := fr b hb; omega⟩, x.out w 1 rfl, hd⟩
theorem rreply_nMGE (c : RC h0 kv k av A) (x : As h0 h (rxE xb kv now av lv [] noText)) (hA : ∀ a ∈ A, a.size < 281474976710656) (hl : A.length ≤ 65536) : CallsH Tryz.prog 38 [ptr xb, .string nMGE] h (Ret (ReplyR h0 h xb kv now av lv (.ok (⟨5, 0, noText, A.map (mgetQ (k.map RX.pr) now)⟩, [])))) := by
  refine f38_calls (by simp) ?_
  intro b4 h1 g1
  have i1 := g1.id
  have z1 := g1.size
  have w := x.st.new g1
  refine And.intro (fun h9 => absurd h9 (by decide)) (fun _ => ?_)
  refine And.intro (fun h9 => absurd h9 (by decide)) (fun _ => ?_)
  refine And.intro (fun h9 => absurd h9 (by decide)) (fun _ => ?_)
  refine And.intro (fun h9 => absurd h9 (by decide)) (fun _ => ?_)
  refine And.intro (fun h9 => absurd h9 (by decide)) (fun _ => ?_)
  refine And.intro (fun h9 => absurd h9 (by decide)) (fun _ => ?_)
  refine And.intro (fun h9 => absurd h9 (by decide)) (fun _ => ?_)
  refine And.intro (fun h9 => absurd h9 (by decide)) (fun _ => ?_)
  refine And.intro (fun h9 => absurd h9 (by decide)) (fun _ => ?_)
  refine And.intro (fun h9 => absurd h9 (by decide)) (fun _ => ?_)
  refine And.intro (fun _ => ?_) (fun h9 => absurd rfl h9)
  refine And.intro (fun h9 => absurd h9 (by decide)) (fun _ => ?_)
  refine call_ret (rmget_calls c (x.out w 1 rfl).1 hA hl) ?_
  rintro _ h3 ⟨q, lv', E, why, ⟨ra, rn, rc, rfl, sl, fr⟩, ⟨_, o3⟩, hd⟩
  have w := w.own 1 rfl o3
  refine w.st2 0 rfl rfl rfl rfl fun h4 w k4 => ?_
  exact ⟨_, rfl, cells_blk (w.get 0 rfl), q, lv', E, why, ⟨ra, rn, rc, rfl, sl.chg k4 (fun b hb => by have := fr b hb; simp; omega), fun b hb => by have := fr b hb; omega⟩, x.out w 1 rfl, hd⟩
theorem rreply_nMSE (c : RC h0 kv k av A) (x : As h0 h (rxE xb kv now av lv [] noText)) (hA : ∀ a ∈ A, a.size < 281474976710656) (hl : A.length ≤ 1000) : CallsH Tryz.prog 38 [ptr xb, .string nMSE] h (Ret (ReplyR h0 h xb kv now av lv (if A.length % 2 = 0 then msetL (k.map RX.pr) now [] A [] else .error wArgs))) := by
  refine f38_calls (by simp) ?_
  intro b4 h1 g1
  have i1 := g1.id
  have z1 := g1.size
  have w := x.st.new g1
  refine And.intro (fun h9 => absurd h9 (by decide)) (fun _ => ?_)
  refine And.intro (fun h9 => absurd h9 (by decide)) (fun _ => ?_)
  refine And.intro (fun h9 => absurd h9 (by decide)) (fun _ => ?_)
  refine And.intro (fun h9 => absurd h9 (by decide)) (fun _ => ?_)
  refine And.intro (fun h9 => absurd h9 (by decide)) (fun _ => ?_)
  refine And.intro (fun h9 => absurd h9 (by decide)) (fun _ => ?_)
  refine And.intro (fun h9 => absurd h9 (by decide)) (fun _ => ?_)
  refine And.intro (fun h9 => absurd h9 (by decide)) (fun _ => ?_)
  refine And.intro (fun h9 => absurd h9 (by decide)) (fun _ => ?_)
  refine And.intro (fun h9 => absurd h9 (by decide)) (fun _ => ?_)
  refine And.intro (fun h9 => absurd h9 (by decide)) (fun _ => ?_)
  refine And.intro (fun _ => ?_) (fun h9 => absurd rfl h9)
  refine And.intro (fun _ => ?_) (fun h9 => absurd rfl h9)
  refine call_ret (rmset_calls c (x.out w 1 rfl).1 hA hl) ?_
  rintro _ h3 ⟨q, lv', E, why, ⟨ra, rn, rc, rfl, sl, fr⟩, ⟨_, o3⟩, hd⟩
  have w := w.own 1 rfl o3
  refine w.st2 0 rfl rfl rfl rfl fun h4 w k4 => ?_
  exact ⟨_, rfl, cells_blk (w.get 0 rfl), q, lv', E, why, ⟨ra, rn, rc, rfl, sl.chg k4 (fun b hb => by have := fr b hb; simp; omega), fun b hb => by have := fr b hb; omega⟩, x.out w 1 rfl, hd⟩
theorem rreply_nKEY (c : RC h0 kv k av A) (rg : RG k) (x : As h0 h (rxE xb kv now av lv [] noText)) : CallsH Tryz.prog 38 [ptr xb, .string nKEY] h (Ret (ReplyR h0 h xb kv now av lv (.ok (⟨5, 0, noText, (liveS now (k.map RX.pr)).map fun s => (4, 0, s)⟩, [])))) := by
  refine f38_calls (by simp) ?_
  intro b4 h1 g1
  have i1 := g1.id
  have z1 := g1.size
  have w := x.st.new g1
  refine And.intro (fun h9 => absurd h9 (by decide)) (fun _ => ?_)
  refine And.intro (fun h9 => absurd h9 (by decide)) (fun _ => ?_)
  refine And.intro (fun h9 => absurd h9 (by decide)) (fun _ => ?_)
  refine And.intro (fun h9 => absurd h9 (by decide)) (fun _ => ?_)
  refine And.intro (fun h9 => absurd h9 (by decide)) (fun _ => ?_)
  refine And.intro (fun h9 => absurd h9 (by decide)) (fun _ => ?_)
  refine And.intro (fun h9 => absurd h9 (by decide)) (fun _ => ?_)
  refine And.intro (fun h9 => absurd h9 (by decide)) (fun _ => ?_)
  refine And.intro (fun h9 => absurd h9 (by decide)) (fun _ => ?_)
  refine And.intro (fun h9 => absurd h9 (by decide)) (fun _ => ?_)
  refine And.intro (fun h9 => absurd h9 (by decide)) (fun _ => ?_)
  refine And.intro (fun h9 => absurd h9 (by decide)) (fun _ => ?_)
  refine And.intro (fun h9 => absurd h9 (by decide)) (fun _ => ?_)
  refine And.intro (fun h9 => absurd h9 (by decide)) (fun _ => ?_)
  refine And.intro (fun h9 => absurd h9 (by decide)) (fun _ => ?_)
  refine call_ret (rnames_calls c rg (x.out w 1 rfl).1) ?_
  rintro _ h3 ⟨q, lv', E, why, ⟨ra, rn, rc, rfl, sl, fr⟩, ⟨_, o3⟩, hd⟩
  have w := w.own 1 rfl o3
  refine w.st2 0 rfl rfl rfl rfl fun h4 w k4 => ?_
  exact ⟨_, rfl, cells_blk (w.get 0 rfl), q, lv', E, why, ⟨ra, rn, rc, rfl, sl.chg k4 (fun b hb => by have := fr b hb; simp; omega), fun b hb => by have := fr b hb; omega⟩, x.out w 1 rfl, hd⟩
theorem rreply_nDBS (c : RC h0 kv k av A) (rg : RG k) (x : As h0 h (rxE xb kv now av lv [] noText)) : CallsH Tryz.prog 38 [ptr xb, .string nDBS] h (Ret (ReplyR h0 h xb kv now av lv (.ok (numR (liveS now (k.map RX.pr)).length, [])))) := by
  refine f38_calls (by simp) ?_
  intro b4 h1 g1
  have i1 := g1.id
  have z1 := g1.size
  have w := x.st.new g1
  refine And.intro (fun h9 => absurd h9 (by decide)) (fun _ => ?_)
  refine And.intro (fun h9 => absurd h9 (by decide)) (fun _ => ?_)
  refine And.intro (fun h9 => absurd h9 (by decide)) (fun _ => ?_)
  refine And.intro (fun h9 => absurd h9 (by decide)) (fun _ => ?_)
  refine And.intro (fun h9 => absurd h9 (by decide)) (fun _ => ?_)
  refine And.intro (fun h9 => absurd h9 (by decide)) (fun _ => ?_)
  refine And.intro (fun h9 => absurd h9 (by decide)) (fun _ => ?_)
  refine And.intro (fun h9 => absurd h9 (by decide)) (fun _ => ?_)
  refine And.intro (fun h9 => absurd h9 (by decide)) (fun _ => ?_)
  refine And.intro (fun h9 => absurd h9 (by decide)) (fun _ => ?_)
  refine And.intro (fun h9 => absurd h9 (by decide)) (fun _ => ?_)
  refine And.intro (fun h9 => absurd h9 (by decide)) (fun _ => ?_)
  refine And.intro (fun h9 => absurd h9 (by decide)) (fun _ => ?_)
  refine And.intro (fun h9 => absurd h9 (by decide)) (fun _ => ?_)
  refine And.intro (fun h9 => absurd h9 (by decide)) (fun _ => ?_)
  refine call_ret (rsize_calls c rg (x.out w 1 rfl).1) ?_
  rintro _ h3 ⟨q, lv', E, why, ⟨ra, rn, rc, rfl, sl, fr⟩, ⟨_, o3⟩, hd⟩
  have w := w.own 1 rfl o3
  refine w.st2 0 rfl rfl rfl rfl fun h4 w k4 => ?_
  exact ⟨_, rfl, cells_blk (w.get 0 rfl), q, lv', E, why, ⟨ra, rn, rc, rfl, sl.chg k4 (fun b hb => by have := fr b hb; simp; omega), fun b hb => by have := fr b hb; omega⟩, x.out w 1 rfl, hd⟩
theorem rreply_nFLU (c : RC h0 kv k av A) (rg : RG k) (x : As h0 h (rxE xb kv now av lv [] noText)) : CallsH Tryz.prog 38 [ptr xb, .string nFLU] h (Ret (ReplyR h0 h xb kv now av lv (.ok (okR, (k.map RX.pr).map fun p => goneE p.1)))) := by
  refine f38_calls (by simp) ?_
  intro b4 h1 g1
  have i1 := g1.id
  have z1 := g1.size
  have w := x.st.new g1
  refine And.intro (fun h9 => absurd h9 (by decide)) (fun _ => ?_)
  refine And.intro (fun h9 => absurd h9 (by decide)) (fun _ => ?_)
  refine And.intro (fun h9 => absurd h9 (by decide)) (fun _ => ?_)
  refine And.intro (fun h9 => absurd h9 (by decide)) (fun _ => ?_)
  refine And.intro (fun h9 => absurd h9 (by decide)) (fun _ => ?_)
  refine And.intro (fun h9 => absurd h9 (by decide)) (fun _ => ?_)
  refine And.intro (fun h9 => absurd h9 (by decide)) (fun _ => ?_)
  refine And.intro (fun h9 => absurd h9 (by decide)) (fun _ => ?_)
  refine And.intro (fun h9 => absurd h9 (by decide)) (fun _ => ?_)
  refine And.intro (fun h9 => absurd h9 (by decide)) (fun _ => ?_)
  refine And.intro (fun h9 => absurd h9 (by decide)) (fun _ => ?_)
  refine And.intro (fun h9 => absurd h9 (by decide)) (fun _ => ?_)
  refine And.intro (fun h9 => absurd h9 (by decide)) (fun _ => ?_)
  refine And.intro (fun h9 => absurd h9 (by decide)) (fun _ => ?_)
  refine And.intro (fun h9 => absurd h9 (by decide)) (fun _ => ?_)
  refine call_ret (rflush_calls c rg (x.out w 1 rfl).1) ?_
  rintro _ h3 ⟨q, lv', E, why, ⟨ra, rn, rc, rfl, sl, fr⟩, ⟨_, o3⟩, hd⟩
  have w := w.own 1 rfl o3
  refine w.st2 0 rfl rfl rfl rfl fun h4 w k4 => ?_
  exact ⟨_, rfl, cells_blk (w.get 0 rfl), q, lv', E, why, ⟨ra, rn, rc, rfl, sl.chg k4 (fun b hb => by have := fr b hb; simp; omega), fun b hb => by have := fr b hb; omega⟩, x.out w 1 rfl, hd⟩
end

end Go.Proofs.YtgmkldaonkbjgaaGreatDoor
namespace Go.Proofs.YtgmkldaonkbjgaaGreatDoor
open Go Go.Sx Go.Proofs.YtgmkldaonkbjgaaGreatDoor.C

theorem known8_ret {h : Heap} (hla : LaidN h) : CallsH Tryz.prog 8 [] h (Ret fun r h' => r = .bool true ∧ Chg [] h h') := by
  refine f8_calls (by simp) ?_
  refine call_ret New_calls ?_
  rintro _ h1 ⟨kb, sb, mb, rfl, ks, hm, _, _, _, c1⟩
  have kr : KR h1 kb sb mb 0 [] := ⟨ks, hm, by simp, by simp, by simp, by simp, by simp, by simp⟩
  have hs : Sorted [] [] := ⟨List.Pairwise.nil, by simp⟩
  intro b2 h2 g2
  have sa : SL encS h2 (.slice (some ⟨b2, 0, none⟩) 2 2) [⟨#[105, 110, 99, 114]⟩, ⟨#[97]⟩] := by
    refine ⟨_, 2, rfl, Nat.le_refl _, ?_⟩
    exact cells_blk g2.blk
  refine call_ret (do_step (n := 1) (kr.ext g2.chg) hs ((hla.ext c1).ext g2.chg) (S := []) (fun p hp => by simp at hp) sa (by simp) (fun s hs => ?_) ⟨by decide, by decide⟩ (by kernel_rfl)) ?_
  · simp at hs
    rcases hs with rfl | rfl <;> decide
  rintro r h3 ⟨c3, hr⟩
  have e : cStep [] 0 1 [⟨#[97]⟩] = .ok (rep 3 1 noText, [textE ⟨#[97]⟩ ⟨#[49]⟩]) := by kernel_rfl
  rw [e] at hr
  obtain ⟨vq, lv, rfl, ⟨ra, rn, rc, rfl, sl, fr⟩, hsl, hfr⟩ := hr
  obtain ⟨la, lc, rfl, _⟩ := hsl.form
  obtain ⟨lb, lo, rfl⟩ := hsl.addr (by simp)
  intro b9 h4 g4
  have w := (St.start h3).new g4
  refine w.st1 0 rfl rfl rfl rfl fun h5 w => ?_
  have hcs := (hsl.ext w.chg).cells encD_len (i := 0) (x := textE ⟨#[97]⟩ ⟨#[49]⟩) rfl
  refine w.ld1 0 rfl rfl ?_
  refine And.intro rfl (And.intro (fun _ => ?_) (fun hne => absurd rfl hne))
  refine w.ld1 0 rfl rfl ?_
  refine And.intro rfl (And.intro (fun _ => ?_) (fun hne => absurd rfl hne))
  refine And.intro rfl (And.intro (fun _ => ?_) (fun hne => absurd rfl hne))
  refine And.intro (by decide) (And.intro (by simp) (Exists.intro _ (And.intro (by simpa using hcs 0 _ rfl) ?_)))
  refine And.intro rfl (And.intro (fun _ => ?_) (fun hne => absurd rfl hne))
  refine And.intro (by decide) (And.intro (by simp) (Exists.intro _ (And.intro (by simpa using hcs 3 _ rfl) ?_)))
  refine And.intro (fun _ => ?_) (fun hne => absurd rfl hne)
  exact ⟨rfl, ((c1.nil g2.chg).nil c3).nil w.chg⟩

theorem kn8 {h h2 : Heap} {K : Value → Heap → Prop} {Qp : List PanicEntry → Heap → Prop} (hla : LaidN h) (c2 : Chg [] h h2) (hK : ∀ h', Chg [] h h' → K (.bool true) h') : CallsH Tryz.prog 8 [] h2 (after K Qp) :=
  call_ret (known8_ret (hla.ext c2)) fun v h' hv => by rw [hv.1]; exact hK h' (c2.nil hv.2)

end Go.Proofs.YtgmkldaonkbjgaaGreatDoor
namespace Go.Proofs.YtgmkldaonkbjgaaGreatDoor
open Go Go.Sx Go.Proofs.YtgmkldaonkbjgaaGreatDoor.C

section
variable {S : Space} {now n : Int} {res : Res} {q : Rep} {E : List Eff} {A : List ByteArray}
theorem short_by (hq : ∀ q E, res = .ok (q, E) → q.l.length ≤ 100000) (hf : Fine S res) : Short res := by
  cases res with
  | error why => exact ⟨by simp [outR], by simp [outR]⟩
  | ok p =>
    obtain ⟨q, E⟩ := p
    exact ⟨hq q E rfl, (hf q E rfl).2.1⟩
theorem len_most {lo hi : Int} {r : Rep} {F : List Eff} (hr : r.l.length ≤ 100000) (h : inMost lo hi A (.ok (r, F)) = .ok (q, E)) : q.l.length ≤ 100000 := by
  unfold inMost at h
  split at h
  · cases h; exact hr
  · cases h
theorem len_mset (h : cMset S now A = .ok (q, E)) : q.l.length ≤ 100000 := by
  have key : ∀ (m : Nat) (L pre : List ByteArray) (E0 : List Eff), L.length ≤ m → msetL S now pre L E0 = .ok (q, E) → q = okR := by
    intro m
    induction m with
    | zero =>
      intro L pre E0 hn h
      have : L = [] := by simpa using hn
      subst this
      simp [msetL] at h
      exact h.1.symm
    | succ m ih =>
      intro L pre E0 hn h
      match L, hn, h with
      | [], _, h => simp [msetL] at h; exact h.1.symm
      | [_], _, h => simp [msetL] at h; exact h.1.symm
      | k :: s :: L, hn, h =>
        rw [msetL_two] at h
        split at h
        · exact ih L _ _ (by simp at hn; omega) h
        · cases h
  unfold cMset inMost at h
  split at h
  · split at h
    · rw [key A.length A [] [] (Nat.le_refl _) h]; decide
    · cases h
  · cases h
end

section
variable {now : Int} {A : List ByteArray}
theorem small_all (hs : ∀ a ∈ A, a.size ≤ 300) : ∀ a ∈ A, a.size < 281474976710656 := fun a ha => by have := hs a ha; omega

theorem pDEL (hl : A.length ≤ 20) : ByP now (nDEL :: A) (fun S => cDel S now A) := fun kr hW _ _ hA =>
  do_plain (w := nDEL) kr hA (by simp only [List.length_cons]; omega) (by decide) (by kernel_rfl) fun h1 ab av' x => del_calls x kr hW
theorem rDEL (hl : A.length ≤ 20) (hs : ∀ a ∈ A, a.size ≤ 300) : ByR now (nDEL :: A) (fun S => cDel S now A) := fun hsl hgx hup hlen hfit s8 _ hA =>
  rdo_calls (w := nDEL) (N := nDEL) hsl hgx hup (by omega) hfit hA (by simp only [List.length_cons]; omega) (by decide) (by kernel_rfl) rbounds_nDEL (fun hn => inMost_no hn) fun h1 xb av' hin c x => by
    show CallsH _ _ _ _ (Ret (ReplyR _ _ _ _ _ _ _ (cDel _ now A)))
    rw [show cDel _ now A = _ from inMost_yes hin]
    exact rreply_nDEL c x (small_all hs) (by omega)
theorem pEXI (hl : A.length ≤ 20) : ByP now (nEXI :: A) (fun S => cExists S now A) := fun kr hW _ _ hA =>
  do_plain (w := nEXI) kr hA (by simp only [List.length_cons]; omega) (by decide) (by kernel_rfl) fun h1 ab av' x => exists_calls x kr hW
theorem rEXI (hl : A.length ≤ 20) (hs : ∀ a ∈ A, a.size ≤ 300) : ByR now (nEXI :: A) (fun S => cExists S now A) := fun hsl hgx hup hlen hfit s8 _ hA =>
  rdo_calls (w := nEXI) (N := nEXI) hsl hgx hup (by omega) hfit hA (by simp only [List.length_cons]; omega) (by decide) (by kernel_rfl) rbounds_nEXI (fun hn => inMost_no hn) fun h1 xb av' hin c x => by
    show CallsH _ _ _ _ (Ret (ReplyR _ _ _ _ _ _ _ (cExists _ now A)))
    rw [show cExists _ now A = _ from inMost_yes hin]
    exact rreply_nEXI c x (small_all hs) (by omega)
theorem pMGE (hl : A.length ≤ 20) : ByP now (nMGE :: A) (fun S => cMget S now A) := fun kr hW _ _ hA =>
  do_plain (w := nMGE) kr hA (by simp only [List.length_cons]; omega) (by decide) (by kernel_rfl) fun h1 ab av' x => mget_calls x kr hW
theorem rMGE (hl : A.length ≤ 20) (hs : ∀ a ∈ A, a.size ≤ 300) : ByR now (nMGE :: A) (fun S => cMget S now A) := fun hsl hgx hup hlen hfit s8 _ hA =>
  rdo_calls (w := nMGE) (N := nMGE) hsl hgx hup (by omega) hfit hA (by simp only [List.length_cons]; omega) (by decide) (by kernel_rfl) rbounds_nMGE (fun hn => inMost_no hn) fun h1 xb av' hin c x => by
    show CallsH _ _ _ _ (Ret (ReplyR _ _ _ _ _ _ _ (cMget _ now A)))
    rw [show cMget _ now A = _ from inMost_yes hin]
    exact rreply_nMGE c x (small_all hs) (by omega)
theorem pMSE (hl : A.length ≤ 20) (hs : ∀ a ∈ A, a.size ≤ 300) : ByP now (nMSE :: A) (fun S => cMset S now A) := fun kr hW _ _ hA =>
  do_plain (w := nMSE) kr hA (by simp only [List.length_cons]; omega) (by decide) (by kernel_rfl) fun h1 ab av' x => mset_calls x kr hW (small_all hs)
theorem rMSE (hl : A.length ≤ 20) (hs : ∀ a ∈ A, a.size ≤ 300) : ByR now (nMSE :: A) (fun S => cMset S now A) := fun hsl hgx hup hlen hfit s8 _ hA =>
  rdo_calls (w := nMSE) (N := nMSE) hsl hgx hup (by omega) hfit hA (by simp only [List.length_cons]; omega) (by decide) (by kernel_rfl) rbounds_nMSE (fun hn => inMost_no hn) fun h1 xb av' hin c x => by
    show CallsH _ _ _ _ (Ret (ReplyR _ _ _ _ _ _ _ (cMset _ now A)))
    rw [show cMset _ now A = _ from inMost_yes hin]
    exact rreply_nMSE c x (small_all hs) (by omega)
theorem pKEY : ByP now [nKEY] (fun S => cNames S now []) := fun kr hW s8 _ hA =>
  do_plain (w := nKEY) kr hA (by simp) (by decide) (by kernel_rfl) fun h1 ab av' x => namesC_calls x kr hW (by have := s8.few.len; omega)
theorem rKEY : ByR now [nKEY] (fun S => cNames S now []) := fun hsl hgx hup hlen hfit s8 _ hA =>
  rdo_calls (w := nKEY) (N := nKEY) hsl hgx hup (by omega) hfit hA (by simp) (by decide) (by kernel_rfl) rbounds_nKEY (fun hn => absurd ⟨by simp, by simp⟩ hn) fun h1 xb av' _ c x => rreply_nKEY c (rg_of8 hup hlen hfit s8) x
theorem pDBS : ByP now [nDBS] (fun S => cSize S now []) := fun kr hW s8 _ hA =>
  do_plain (w := nDBS) kr hA (by simp) (by decide) (by kernel_rfl) fun h1 ab av' x => size_calls x kr hW
theorem rDBS : ByR now [nDBS] (fun S => cSize S now []) := fun hsl hgx hup hlen hfit s8 _ hA =>
  rdo_calls (w := nDBS) (N := nDBS) hsl hgx hup (by omega) hfit hA (by simp) (by decide) (by kernel_rfl) rbounds_nDBS (fun hn => absurd ⟨by simp, by simp⟩ hn) fun h1 xb av' _ c x => rreply_nDBS c (rg_of8 hup hlen hfit s8) x
theorem pFLU : ByP now [nFLU] (fun S => cFlush S []) := fun kr hW s8 _ hA =>
  do_plain (w := nFLU) kr hA (by simp) (by decide) (by kernel_rfl) fun h1 ab av' x => flush_calls x kr hW (by have := s8.few.len; omega)
theorem rFLU : ByR now [nFLU] (fun S => cFlush S []) := fun hsl hgx hup hlen hfit s8 _ hA =>
  rdo_calls (w := nFLU) (N := nFLU) hsl hgx hup (by omega) hfit hA (by simp) (by decide) (by kernel_rfl) rbounds_nFLU (fun hn => absurd ⟨by simp, by simp⟩ hn) fun h1 xb av' _ c x => rreply_nFLU c (rg_of8 hup hlen hfit s8) x
end

def sV : ByteArray := ⟨#[118]⟩
def pairsV (L : List ByteArray) : List ByteArray := L.flatMap fun n => [n, sV]
theorem pairsV_len (L : List ByteArray) : (pairsV L).length = 2 * L.length := by
  unfold pairsV
  induction L with
  | nil => rfl
  | cons x L ih => simp only [List.flatMap_cons, List.length_append, List.length_cons, List.length_nil, ih]; omega
theorem pairsV_small {L : List ByteArray} (hs : ∀ a ∈ L, a.size ≤ 300) : ∀ a ∈ pairsV L, a.size ≤ 300 := fun a ha => by
  obtain ⟨n, hn, hm⟩ := List.mem_flatMap.1 ha
  rcases List.mem_cons.1 hm with rfl | hm
  · exact hs _ hn
  · rw [List.mem_singleton.1 hm]; decide
theorem pairsV_take {L : List ByteArray} {q : Nat} (hq : q < L.length) : pairsV (L.take (q + 1)) = pairsV (L.take q) ++ [L[q], sV] := by
  unfold pairsV
  rw [List.take_succ_eq_append_getElem hq, List.flatMap_append]; rfl

theorem ol_word {h : Heap} {b : Nat} {N : ByteArray} (hb : Blk h b [.string N]) : OL encS 1 h (.slice (some ⟨b, 0, none⟩) 1 1) [N] := ⟨_, 1, rfl, rfl, Nat.le_refl _, [], by exact hb, rfl⟩

theorem BasicsMany_calls {h : Heap} {v u : Value} {l : List RX} {A : List ByteArray} {now : Int} (hv : SL encX h v l) (hu : SL encS h u A) (g : GX h l) (f : XFit l) (fd : SFit A) (hun : ∀ x ∈ l, In64 x.thing.unt) (hla : LaidN h) :
    CallsH Tryz.prog 4 [v, .int .i64 now, u] h (Ret fun r h' => r = .bool true ∧ Chg [] h h') := by
  obtain ⟨ua, uc, rfl, _⟩ := hu.form
  refine f4_calls (by simp) ?_
  refine call_ret (vast8_calls hv hu g f fd) ?_
  rintro _ h1 ⟨⟨b, rfl, hb⟩, c1⟩
  cases b with
  | true => exact kn8 hla c1 fun h2 c2 => And.intro rfl c2
  | false =>
    obtain ⟨nv, sm⟩ := hb rfl
    have hsz := sm.each
    refine And.intro rfl (And.intro (fun _ => kn8 hla c1 fun h2 c2 => And.intro rfl c2) (fun h10 => ?_))
    have hl10 : A.length ≤ 10 := by omega
    have w := ((St.start h).ext c1).empty (enc := encS) (size := 1)
    refine loop_intro (fun q : Nat × Value => [(0, v), (1, .int .i64 now), (2, .slice ua A.length uc), (7, q.2), (8, .int .i64 q.1)])
      (fun q h' => q.1 ≤ A.length ∧ St [] h h' [.o encS 1 q.2 (pairsV (A.take q.1))]) (fun q => A.length - q.1) (0, .slice none 0 0) ⟨rfl, rfl, rfl, rfl, rfl, trivial⟩ ⟨Nat.zero_le _, w⟩ ?_
    rintro ⟨q, pv⟩ h2 ⟨hq, w⟩
    obtain ⟨a3, c3, rfl, _⟩ := (show OL encS 1 h2 pv (pairsV (A.take q)) from w.get 0 rfl).sl.form
    have hq : q ≤ A.length := hq
    refine And.intro rfl (And.intro (fun hlt => ?_) (fun hge => ?_))
    · have hlt : q < A.length := by omega
      have hmp := pairsV_take hlt
      have hpl := pairsV_len (A.take q)
      have hpl2 : (A.take q).length ≤ 10 := by simp; omega
      obtain ⟨b0, o0, rfl⟩ := hu.addr (by omega)
      have hcs := (hu.ext w.chg).cells encS_len (List.getElem?_eq_getElem hlt)
      refine And.intro (by omega) (And.intro (by omega) (Exists.intro _ (And.intro (by simpa using hcs 0 _ rfl) ?_)))
      intro b4 h3 g3
      have w := w.new g3
      refine w.app 1 rfl encS_len encS_one rfl (show SL encS h3 (.slice (some ⟨b4, 0, none⟩) 2 2) [A[q], sV] from ⟨_, 2, rfl, Nat.le_refl _, by exact cells_blk (w.get 0 rfl)⟩) (by simp only [List.length_cons, List.length_nil]; omega) fun v' h4 w => ?_
      rw [← hmp] at w
      have w := w.pick [1] (by decide)
      refine And.intro rfl (fun z hz => ?_)
      have hz := add_in hz (by omega) (by omega)
      subst hz
      exact And.intro rfl (Exists.intro (q + 1, v') (And.intro ⟨rfl, rfl, rfl, rfl, rfl, trivial⟩ (And.intro ⟨hlt, w⟩ (by simp only; omega))))
    · have hkl : q = A.length := by omega
      subst hkl
      have htA : pairsV (A.take A.length) = pairsV A := by rw [List.take_length]
      have hpl := pairsV_len A
      have word : ∀ {h3 h4 : Heap} {M : List En} {b : Nat} {N : ByteArray}, St [] h h3 M → Grow h3 h4 b [.string N] → St [] h h4 (.o encS 1 (.slice (some ⟨b, 0, none⟩) 1 1) [N] :: M) := fun w g =>
        w.add g.chg (ol_word g.blk) (fun k hk => by
          have hk : k ∈ [_] := hk
          rw [List.mem_singleton.1 hk, g.id]; exact Nat.le_refl _)
      intro b1 h3 g3
      have w := word w g3
      refine w.app 0 rfl encS_len encS_one rfl (hu.ext w.chg) (by simp only [List.length_cons, List.length_nil]; omega) fun v1 h4 w => ?_
      obtain ⟨x1, y1, rfl, _⟩ := (show OL encS 1 h4 v1 ([_] ++ A) from w.get 0 rfl).sl.form
      intro b2 h5 g5
      have w := word w g5
      refine w.app 0 rfl encS_len encS_one rfl (hu.ext w.chg) (by simp only [List.length_cons, List.length_nil]; omega) fun v2 h6 w => ?_
      obtain ⟨x2, y2, rfl, _⟩ := (show OL encS 1 h6 v2 ([_] ++ A) from w.get 0 rfl).sl.form
      intro b3 h7 g7
      have w := word w g7
      refine w.app 0 rfl encS_len encS_one rfl (hu.ext w.chg) (by simp only [List.length_cons, List.length_nil]; omega) fun v3 h8 w => ?_
      obtain ⟨x3, y3, rfl, _⟩ := (show OL encS 1 h8 v3 ([_] ++ A) from w.get 0 rfl).sl.form
      intro b4 h9 g9
      have w := word w g9
      refine w.app 0 rfl encS_len encS_one rfl (show OL encS 1 h9 (.slice a3 (pairsV (A.take A.length)).length c3) (pairsV (A.take A.length)) from w.get 4 rfl).sl (by simp only [List.length_cons, List.length_nil]; rw [htA]; omega) fun v4 h10 w => ?_
      obtain ⟨x4, y4, rfl, _⟩ := (show OL encS 1 h10 v4 ([_] ++ pairsV (A.take A.length)) from w.get 0 rfl).sl.form
      have s4 := (show OL encS 1 h10 _ ([_] ++ pairsV (A.take A.length)) from w.get 0 rfl).sl
      have s3 := (show OL encS 1 h10 _ ([_] ++ A) from w.get 1 rfl).sl
      have s2 := (show OL encS 1 h10 _ ([_] ++ A) from w.get 2 rfl).sl
      have s1 := (show OL encS 1 h10 _ ([_] ++ A) from w.get 3 rfl).sl
      have C10 : Chg [] h h10 := w.chg
      have go : ∀ {h11 h12 : Heap} {av : Value} {AA : List ByteArray} {res : Space → Res}, Chg [] h h11 → SL encS h11 av AA → ByP now AA res → ByR now AA res → (∀ S, S8 S → Short (res S)) → h12 = h11 →
          CallsH Tryz.prog 9 [v, .int .i64 now, av] h12 (Ret fun r h' => r = .bool true ∧ Chg [] h11 h') := fun {h11 h12 av AA res} c hA hp hr hsh e => by
        subst e
        exact does_calls (hv.ext c) (g.ext c) nv hun (hla.ext c) hA hp hr hsh
      have hl20 : A.length ≤ 20 := by omega
      refine call_ret (go C10 (AA := nDEL :: A) s1 (pDEL hl20) (rDEL hl20 hsz) (fun S s8 => short_by (fun q E h => len_most (by simp [numR]) h) (fine_del s8.few)) rfl) ?_
      rintro _ h11 ⟨rfl, c11⟩
      refine call_ret (go (C10.nil c11) (AA := nEXI :: A) (s2.ext c11) (pEXI hl20) (rEXI hl20 hsz) (fun S s8 => short_by (fun q E h => len_most (by simp [numR]) h) fine_exists) rfl) ?_
      rintro _ h12 ⟨rfl, c12⟩
      have k12 := c11.nil c12
      refine call_ret (go (C10.nil k12) (AA := nMGE :: A) (s3.ext k12) (pMGE hl20) (rMGE hl20 hsz) (fun S s8 => short_by (fun q E h => len_most (by simp; omega) h) fine_mget) rfl) ?_
      rintro _ h13 ⟨rfl, c13⟩
      have k13 := k12.nil c13
      have hpm : (pairsV (A.take A.length)).length ≤ 20 := by rw [htA]; omega
      have hps : ∀ a ∈ pairsV (A.take A.length), a.size ≤ 300 := by rw [htA]; exact pairsV_small hsz
      refine call_ret (go (C10.nil k13) (AA := nMSE :: pairsV (A.take A.length)) (s4.ext k13) (pMSE hpm hps) (rMSE hpm hps) (fun S s8 => short_by (fun q E h => len_mset h) (fine_mset s8.few hpm)) rfl) ?_
      rintro _ h14 ⟨rfl, c14⟩
      have k14 := C10.nil (k13.nil c14)
      intro b15 h15 g15
      refine call_ret (go (k14.nil g15.chg) (AA := [nKEY]) (SL.one encS_len g15.blk) pKEY rKEY (fun S s8 => short_by (fun q E h => by
        have h : Except.ok _ = Except.ok (q, E) := h
        cases h
        have := liveS_len (now := now) (S := S)
        have := s8.few.len
        simp; omega) fine_names) rfl) ?_
      rintro _ h16 ⟨rfl, c16⟩
      have k16 := (k14.nil g15.chg).nil c16
      intro b17 h17 g17
      refine call_ret (go (k16.nil g17.chg) (AA := [nDBS]) (SL.one encS_len g17.blk) pDBS rDBS (fun S s8 => short_by (fun q E h => by
        have h : Except.ok _ = Except.ok (q, E) := h
        cases h
        simp [numR]) fine_size) rfl) ?_
      rintro _ h18 ⟨rfl, c18⟩
      have k18 := (k16.nil g17.chg).nil c18
      intro b19 h19 g19
      refine call_ret (go (k18.nil g19.chg) (AA := [nFLU]) (SL.one encS_len g19.blk) pFLU rFLU (fun S s8 => short_by (fun q E h => by
        have h : Except.ok _ = Except.ok (q, E) := h
        cases h
        simp [okR]) (fine_flush s8.few)) rfl) ?_
      rintro _ h20 ⟨rfl, c20⟩
      exact kn8 hla ((k18.nil g19.chg).nil c20) fun h' c => And.intro rfl c

end Go.Proofs.YtgmkldaonkbjgaaGreatDoor
namespace Go.Proofs.YtgmkldaonkbjgaaGreatDoor
open Go Go.Sx Go.ChangeShapes Go.WideShapes Go.ChangeAt Go.RowKit

theorem own : ownKnob Tryz.prog.godebug = none := by kernel_rfl
theorem laidOut : laidOutB Tryz.prog = true := by kernel_rfl

def tab32 : List Int := [0, 1, 28, 2, 29, 14, 24, 3, 30, 22, 20, 15, 25, 17, 4, 8, 31, 27, 13, 23, 21, 19, 16, 7, 26, 12, 18, 6, 11, 5, 10, 9]
def tab64 : List Int := [0, 1, 56, 2, 57, 49, 28, 3, 61, 58, 42, 50, 38, 29, 17, 4, 62, 47, 59, 36, 45, 43, 51, 22, 53, 39, 33, 30, 24, 18, 12, 5, 63, 55, 48, 27, 60, 41, 37, 16, 46, 35, 44, 21, 52, 32, 23, 11, 54, 26, 40, 15, 34, 20, 31, 10, 25, 14, 19, 9, 13, 8, 7, 6]
def pow10 : List Int := [1, 10, 100, 1000, 10000, 100000, 1000000, 10000000, 100000000, 1000000000, 10000000000, 100000000000, 1000000000000, 10000000000000, 100000000000000, 1000000000000000, 10000000000000000, 100000000000000000, 1000000000000000000, 10000000000000000000]
def wordRange : ByteArray := ⟨#[118, 97, 108, 117, 101, 32, 111, 117, 116, 32, 111, 102, 32, 114, 97, 110, 103, 101]⟩
def wordSyntax : ByteArray := ⟨#[105, 110, 118, 97, 108, 105, 100, 32, 115, 121, 110, 116, 97, 120]⟩
def laid5 : List (String × DataW Unit) := [("math/bits.deBruijn32tab", Rows.laid_math_bits_deBruijn32tab), ("math/bits.deBruijn64tab", Rows.laid_math_bits_deBruijn64tab), ("internal/strconv.uint64pow10", Rows.laid_internal_strconv_uint64pow10), ("strconv.ErrRange", Rows.laid_strconv_ErrRange), ("strconv.ErrSyntax", Rows.laid_strconv_ErrSyntax)]

def putTab (vs : Array Value) : Obj → Obj
  | .cells _ t frozen => .cells vs t frozen
  | o => o
noncomputable def bare (os : Os) : World := World.holding Tryz.prog os ⟨#[], #[], []⟩
noncomputable def laidWorld (os : Os) : World :=
  { bare os with heap := ((((((bare os).heap.modify 2 (putTab (tab32.map fun z => Value.int .u8 z).toArray)).modify 3 (putTab (tab64.map fun z => Value.int .u8 z).toArray)).modify 1 (putTab (pow10.map fun z => Value.int .u64 z).toArray)).modify 5
    (putTab #[.iface 246 (.pointer (some ⟨(bare os).heap.size, 0, none⟩))])).modify 4 (putTab #[.iface 246 (.pointer (some ⟨(bare os).heap.size + 1, 0, none⟩))])) ++
    #[.cells #[.string wordRange] 248 (0, 0), .cells #[.string wordSyntax] 248 (0, 0)] }
theorem laid_met (os : Os) (args : Array Value) : laidMet Tryz.prog laid5 ((laidWorld os).forCall (fun _ _ => 0) ⟨#[], args, []⟩).memory :=
  laidMet_of_run' 8 (by kernel_rfl) (by kernel_rfl)

theorem int_arg {P : Program} {W : World} {b0 : Nat} {r : Reach} {t : TypeId} {v : Value} (ht : P.underlying t = some (.int .i64)) (hval : Value.okWide P W r b0 t v) :
    ∃ n, v = .int .i64 n := by
  simp only [Value.okWide, Cell.okWide, Cell.ok, ht] at hval
  split at hval <;> simp_all

end Go.Proofs.YtgmkldaonkbjgaaGreatDoor
namespace Go.Proofs.YtgmkldaonkbjgaaGreatDoor
open Go Go.Sx Go.ChangeShapes Go.WideShapes Go.ChangeAt Go.RowKit

theorem len2 {α : Type} {l : List α} (h : l.length = 2) : ∃ a b, l = [a, b] := by
  match l, h with
  | [a, b], _ => exact ⟨a, b, rfl⟩
theorem len7 {α : Type} {l : List α} (h : l.length = 7) : ∃ a0 a1 a2 a3 a4 a5 a6, l = [a0, a1, a2, a3, a4, a5, a6] := by
  match l, h with
  | [a0, a1, a2, a3, a4, a5, a6], _ => exact ⟨a0, a1, a2, a3, a4, a5, a6, rfl⟩
theorem len8 {α : Type} {l : List α} (h : l.length = 8) : ∃ a0 a1 a2 a3 a4 a5 a6 a7, l = [a0, a1, a2, a3, a4, a5, a6, a7] := by
  match l, h with
  | [a0, a1, a2, a3, a4, a5, a6, a7], _ => exact ⟨a0, a1, a2, a3, a4, a5, a6, a7, rfl⟩

section
variable {H : Type} {enc : TypeId × Value → H} {W : World} {base n : Nat} {sp : Nat → Bool} {held : Bool} {cs : List Value} {x : DataW H × List MemPlace}

theorem open_rank (h : DataW.trod enc Tryz.prog W base sp held n 90 cs = some x) (hw : Wts Tryz.prog 90 x.1) : ∃ a : Rank, cs = encR a ∧ a.name.size < 1000000000000000000 := by
  obtain ⟨xs, m, rfl, hx, hl, hls, hi⟩ := DataW.trod_struct Tryz.underlying90 h
  have c9 : Tryz.prog.cellsOf 9 = 1 := by kernel_rfl
  have c2 : Tryz.prog.cellsOf 2 = 1 := by kernel_rfl
  have cc : Tryz.prog.cellsOf 90 = 2 := by kernel_rfl
  rw [cc] at hl
  obtain ⟨u, v, rfl⟩ := len2 hl
  obtain ⟨y, z, rfl⟩ := len2 (l := xs) hls
  have h0 := fld hi 0 9 0 1 rfl rfl rfl c9 rfl rfl
  have h1 := fld hi 1 2 1 1 rfl rfl rfl c2 rfl rfl
  have hw0 : Wts Tryz.prog 9 y.1 := by
    intro k hk
    refine hw k ?_
    rw [hx]
    simp only [DataW.weights, Tryz.underlying90, List.map_cons, List.map_nil, DataW.weightsEach, List.mem_append]
    exact .inl hk
  obtain ⟨nm, e0, hs⟩ := str_of_trod Tryz.underlying9 h0 hw0
  obtain ⟨k, e1, _, _⟩ := DataW.trod_int Tryz.underlying2 h1
  obtain ⟨rfl⟩ := e0
  obtain ⟨rfl⟩ := e1
  have := reachBytes_lt
  exact ⟨⟨nm, k⟩, rfl, by show nm.size < _; omega⟩

theorem open_pair (h : DataW.trod enc Tryz.prog W base sp held n 88 cs = some x) (hw : Wts Tryz.prog 88 x.1) : ∃ a : Pair, cs = encP a ∧ a.name.size < 1000000000000000000 ∧ a.text.size < 1000000000000000000 := by
  obtain ⟨xs, m, rfl, hx, hl, hls, hi⟩ := DataW.trod_struct Tryz.underlying88 h
  have c9 : Tryz.prog.cellsOf 9 = 1 := by kernel_rfl
  have cc : Tryz.prog.cellsOf 88 = 2 := by kernel_rfl
  rw [cc] at hl
  obtain ⟨u, v, rfl⟩ := len2 hl
  obtain ⟨y, z, rfl⟩ := len2 (l := xs) hls
  have h0 := fld hi 0 9 0 1 rfl rfl rfl c9 rfl rfl
  have h1 := fld hi 1 9 1 1 rfl rfl rfl c9 rfl rfl
  have hw0 : Wts Tryz.prog 9 y.1 := by
    intro k hk
    refine hw k ?_
    rw [hx]
    simp only [DataW.weights, Tryz.underlying88, List.map_cons, List.map_nil, DataW.weightsEach, List.mem_append]
    exact .inl hk
  have hw1 : Wts Tryz.prog 9 z.1 := by
    intro k hk
    refine hw k ?_
    rw [hx]
    simp only [DataW.weights, Tryz.underlying88, List.map_cons, List.map_nil, DataW.weightsEach, List.mem_append]
    exact .inr (.inl hk)
  obtain ⟨nm, e0, hs⟩ := str_of_trod Tryz.underlying9 h0 hw0
  obtain ⟨tx, e1, hs1⟩ := str_of_trod Tryz.underlying9 h1 hw1
  obtain ⟨rfl⟩ := e0
  obtain ⟨rfl⟩ := e1
  have := reachBytes_lt
  exact ⟨⟨nm, tx⟩, rfl, by show nm.size < _; omega, by show tx.size < _; omega⟩

theorem open_s (h : DataW.trod enc Tryz.prog W base sp held n 9 cs = some x) (hw : Wts Tryz.prog 9 x.1) : ∃ a : ByteArray, cs = encS a ∧ a.size < 1000000000000000000 := by
  obtain ⟨nm, e0, hs⟩ := str_of_trod Tryz.underlying9 h hw
  have := reachBytes_lt
  exact ⟨nm, e0, by omega⟩

set_option maxRecDepth 100000 in
theorem open_thing (h : DataW.trod enc Tryz.prog W base sp held n 27 cs = some x) (hw : Wts Tryz.prog 27 x.1) :
    ∃ t : Thing, TH W.heap cs t ∧ Fits t ∧ Sized t ∧ cs.length = 7 ∧ (-9223372036854775808 ≤ t.unt ∧ t.unt ≤ 9223372036854775807) := by
  obtain ⟨xs, m, rfl, hx, hl, hls, hi⟩ := DataW.trod_struct Tryz.underlying27 h
  have hd : x.1 = .agg (xs.map (·.1)) := congrArg Prod.fst hx
  have c9 : Tryz.prog.cellsOf 9 = 1 := by kernel_rfl
  have c2 : Tryz.prog.cellsOf 2 = 1 := by kernel_rfl
  have c4 : Tryz.prog.cellsOf 4 = 1 := by kernel_rfl
  have c22 : Tryz.prog.cellsOf 22 = 1 := by kernel_rfl
  have c23 : Tryz.prog.cellsOf 23 = 1 := by kernel_rfl
  have c24 : Tryz.prog.cellsOf 24 = 1 := by kernel_rfl
  have c25 : Tryz.prog.cellsOf 25 = 1 := by kernel_rfl
  have c27 : Tryz.prog.cellsOf 27 = 7 := by kernel_rfl
  rw [c27] at hl
  obtain ⟨a0, a1, a2, a3, a4, a5, a6, rfl⟩ := len7 hl
  obtain ⟨y0, y1, y2, y3, y4, y5, y6, rfl⟩ := len7 (l := xs) hls
  have h0 := fld hi 0 22 0 1 rfl rfl rfl c22 rfl rfl
  have h1 := fld hi 1 9 1 1 rfl rfl rfl c9 rfl rfl
  have h2 := fld hi 2 23 2 1 rfl rfl rfl c23 rfl rfl
  have h3 := fld hi 3 24 3 1 rfl rfl rfl c24 rfl rfl
  have h4 := fld hi 4 25 4 1 rfl rfl rfl c25 rfl rfl
  have h5 := fld hi 5 4 5 1 rfl rfl rfl c4 rfl rfl
  have h6 := fld hi 6 2 6 1 rfl rfl rfl c2 rfl rfl
  have hwk : ∀ (i t : Nat) (y : DataW H × List MemPlace), [22, 9, 23, 24, 25, 4, 2][i]? = some t → [y0, y1, y2, y3, y4, y5, y6][i]? = some y → Wts Tryz.prog t y.1 := by
    intro i t y ht hy k hk
    refine hw k ?_
    rw [hd]
    simp only [DataW.weights, Tryz.underlying27]
    refine DataW.weights_mem_each (j := i) (t := t) (d := y.1) ?_ ?_ k hk
    · exact ht
    · rw [List.getElem?_map, hy]; rfl
  obtain ⟨kd, e0, _, _⟩ := DataW.trod_int Tryz.underlying22 h0
  obtain ⟨tx, e1, hs1⟩ := str_of_trod Tryz.underlying9 h1 (hwk 1 9 y1 rfl rfl)
  obtain ⟨lp, sp, gp, np⟩ := open_cell (k := 2) (en := encP) Tryz.underlying23 (by kernel_rfl) (by decide) encP_len (fun n cs x h hw => open_pair h hw) h2 (hwk 2 23 y2 rfl rfl)
  obtain ⟨ll, sl, gl, nl⟩ := open_cell (k := 1) (en := encS) Tryz.underlying24 (by kernel_rfl) (by decide) encS_len (fun n cs x h hw => open_s h hw) h3 (hwk 3 24 y3 rfl rfl)
  obtain ⟨lr, sr, gr, nr⟩ := open_cell (k := 2) (en := encR) Tryz.underlying25 (by kernel_rfl) (by decide) encR_len (fun n cs x h hw => open_rank h hw) h4 (hwk 4 25 y4 rfl rfl)
  obtain ⟨bu, e5, _⟩ := DataW.trod_bool Tryz.underlying4 h5
  obtain ⟨un, e6, _, wf6⟩ := DataW.trod_int Tryz.underlying2 h6
  have un6 : -9223372036854775808 ≤ un ∧ un ≤ 9223372036854775807 := by
    unfold Lit.wf at wf6
    simp only [Bool.and_eq_true, decide_eq_true_eq] at wf6
    exact wf6
  obtain ⟨rfl⟩ := e0
  obtain ⟨rfl⟩ := e1
  obtain ⟨rfl⟩ := e5
  obtain ⟨rfl⟩ := e6
  have b32 : Tryz.prog.bytesOf 88 = 32 := by kernel_rfl
  have b9 : Tryz.prog.bytesOf 9 = 16 := by kernel_rfl
  have b34 : Tryz.prog.bytesOf 90 = 24 := by kernel_rfl
  rw [b32] at np
  rw [b9] at nl
  rw [b34] at nr
  have := reachBytes_lt
  refine ⟨⟨kd, tx, lp, ll, lr, bu, un⟩, ⟨_, _, _, rfl, sp, sl, sr⟩, ⟨?_, ?_, ?_⟩, ⟨?_, gp, gl, gr⟩, rfl, un6⟩
  · show lp.length < _; omega
  · show ll.length < _; omega
  · show lr.length < _; omega
  · show tx.size < _; omega

structure GoodX (h : Heap) (x : RX) : Prop where
  th : TH h x.vs x.thing
  fits : Fits x.thing
  sized : Sized x.thing
  key : x.key.size < 1000000000000000000
  unt : -9223372036854775808 ≤ x.thing.unt ∧ x.thing.unt ≤ 9223372036854775807

set_option maxRecDepth 100000 in
theorem open_entry (h : DataW.trod enc Tryz.prog W base sp held n 29 cs = some x) (hw : Wts Tryz.prog 29 x.1) : ∃ a : RX, cs = encX a ∧ GoodX W.heap a := by
  obtain ⟨xs, m, rfl, hx, hl, hls, hi⟩ := DataW.trod_struct Tryz.underlying29 h
  have hd : x.1 = .agg (xs.map (·.1)) := congrArg Prod.fst hx
  have c9 : Tryz.prog.cellsOf 9 = 1 := by kernel_rfl
  have c7 : Tryz.prog.cellsOf 27 = 7 := by kernel_rfl
  have cc : Tryz.prog.cellsOf 29 = 8 := by kernel_rfl
  rw [cc] at hl
  obtain ⟨k0, a0, a1, a2, a3, a4, a5, a6, rfl⟩ := len8 hl
  obtain ⟨y, z, rfl⟩ := len2 (l := xs) hls
  have h0 := fld hi 0 9 0 1 rfl rfl rfl c9 rfl rfl
  have h1 := fld hi 1 27 1 7 rfl rfl rfl c7 rfl rfl
  have hwk : ∀ (i t : Nat) (w : DataW H × List MemPlace), [9, 27][i]? = some t → [y, z][i]? = some w → Wts Tryz.prog t w.1 := by
    intro i t y ht hy k hk
    refine hw k ?_
    rw [hd]
    simp only [DataW.weights, Tryz.underlying29]
    refine DataW.weights_mem_each (j := i) (t := t) (d := y.1) ?_ ?_ k hk
    · exact ht
    · rw [List.getElem?_map, hy]; rfl
  obtain ⟨key, e0, hz⟩ := str_of_trod Tryz.underlying9 h0 (hwk 0 9 y rfl rfl)
  obtain ⟨t, th, ft, st, hl7, un⟩ := open_thing h1 (hwk 1 27 z rfl rfl)
  obtain ⟨rfl⟩ := e0
  have := reachBytes_lt
  exact ⟨⟨key, t, _, hl7, thing_one th⟩, rfl, th, ft, st, by show key.size < _; omega, un⟩

set_option maxRecDepth 100000 in
theorem open_entries {v : Value} {d : DataW H} {ps : List MemPlace} {r : Reach} {b0 : Nat} (hval : Value.okWide Tryz.prog W r b0 30 v) (h : DataW.Trod enc Tryz.prog W base sp held 30 v d ps) (hw : Wts Tryz.prog 30 d) :
    ∃ l : List RX, SL encX W.heap v l ∧ GX W.heap l ∧ XFit l ∧ ∀ x ∈ l, -9223372036854775808 ≤ x.thing.unt ∧ x.thing.unt ≤ 9223372036854775807 := by
  obtain ⟨n, hn⟩ := cell_arg Tryz.underlying30 hval h
  obtain ⟨l, sl, g, nl⟩ := open_cell (k := 8) (en := encX) Tryz.underlying30 (by kernel_rfl) (by decide) encX_len (fun n cs x h hw => open_entry h hw) hn hw
  have b : Tryz.prog.bytesOf 29 = 128 := by kernel_rfl
  rw [b] at nl
  have := reachBytes_lt
  exact ⟨l, sl, fun x hx => (g x hx).th, ⟨by omega, fun x hx => by have := (g x hx).key; omega, fun x hx => (g x hx).fits, fun x hx => (g x hx).sized⟩, fun x hx => (g x hx).unt⟩

end

end Go.Proofs.YtgmkldaonkbjgaaGreatDoor
namespace Go.Proofs.YtgmkldaonkbjgaaGreatDoor
open Go Go.Sx Go.ChangeShapes Go.WideShapes Go.ChangeAt Go.RowKit

theorem trod_iface {H : Type} {enc : TypeId × Value → H} {P : Program} {w : World} {base n : Nat} {sp : Nat → Bool} {held : Bool} {t : TypeId} {cs : List Value} {x : DataW H × List MemPlace}
    (ht : (match P.underlying t with | some (.interface _) => true | _ => false) = true) (h : DataW.trod enc P w base sp held n t cs = some x) : ∃ v, cs = [v] ∧ IfaceV v := by
  obtain ⟨ms, ht⟩ : ∃ ms, P.underlying t = some (.interface ms) := by
    split at ht
    · rename_i ms h1; exact ⟨ms, h1⟩
    · cases ht
  cases n with
  | zero => simp [DataW.trod] at h
  | succ n =>
    simp only [DataW.trod, ht] at h
    split at h <;> first | exact ⟨_, rfl, .inl rfl⟩ | exact ⟨_, rfl, .inr ⟨_, _, rfl⟩⟩ | (exfalso; simp_all; done)

theorem errV {W : World} {n : String} {gi : Nat} {g : Nat} {t : TypeId} {cs : Array Value} {fuel : Nat} {d : DataW Unit} {p : List MemPlace} (hgi : Tryz.prog.globalNamed n = some gi) (hti : (Tryz.prog.globals[gi]?).map (·.type) = some 183)
    (hg : Tryz.prog.globalNamed n = some g) (ht : (Tryz.prog.globals[g]?).map (·.type) = some t) (hv : W.var? Tryz.prog n = some cs) (h : DataW.trod (fun _ => ()) Tryz.prog W 0 (fun _ => true) false fuel t cs.toList = some (d, p)) :
    ∃ v, cell W.heap gi 0 = some v ∧ IfaceV v := by
  obtain rfl := Option.some.inj (hgi.symm.trans hg)
  obtain rfl := Option.some.inj (hti.symm.trans ht)
  obtain ⟨v, e, hi⟩ := trod_iface (by kernel_rfl) h
  refine ⟨v, ?_, hi⟩
  unfold World.var? at hv
  rw [hgi] at hv
  have hv : (match W.heap[gi]? with | some (.cells cs _ _) => some cs | _ => none) = some cs := hv
  unfold cell
  split at hv
  · rename_i h1
    injection hv with hv
    subst hv
    rw [h1]
    show (_ : Array Value)[0]? = _
    rw [← Array.getElem?_toList, e]; rfl
  · cases hv

theorem laidN_of {W : World} (h : laidMetH Tryz.prog laid5 W) : LaidN W.heap := by
  have h : laidMet Tryz.prog laid5 W := h
  obtain ⟨ps, ⟨_, _, _, _, _, _, _, _, _, _, ⟨_, _, _, _, _, _, _, _, _, _, ⟨g, t, cs, fuel, p, q, hg, ht, hv, htr, ⟨g2, t2, cs2, fuel2, p2, q2, hg2, ht2, hv2, htr2, ⟨g3, t3, cs3, fuel3, p3, q3, hg3, ht3, hv3, htr3, _, _⟩, _⟩, _⟩, _⟩, _⟩, _⟩ := h
  refine ⟨?_, errV (by kernel_rfl) (by kernel_rfl) hg3 ht3 hv3 htr3, errV (by kernel_rfl) (by kernel_rfl) hg2 ht2 hv2 htr2⟩
  have hgi : Tryz.prog.globalNamed "internal/strconv.uint64pow10" = some 1 := by kernel_rfl
  have hti : (Tryz.prog.globals[1]?).map (·.type) = some 200 := by kernel_rfl
  obtain rfl := Option.some.inj (hgi.symm.trans hg)
  obtain rfl := Option.some.inj (hti.symm.trans ht)
  have hc := Lib.cells_of_tab (k := .u64) (zs := Lib.pow10Tab) (n := 20) (e := 167) (by kernel_rfl) (by kernel_rfl) (by kernel_rfl) (by kernel_rfl) htr
  unfold World.var? at hv
  rw [hgi] at hv
  have hv : (match W.heap[(1 : Nat)]? with | some (.cells cs _ _) => some cs | _ => none) = some cs := hv
  split at hv
  · rename_i h1
    injection hv with hv
    subst hv
    exact ⟨_, _, by rw [h1, ← hc]⟩
  · cases hv


section
variable {H : Type} {enc : TypeId × Value → H} {W : World} {base n : Nat} {sp : Nat → Bool} {held : Bool}
set_option maxRecDepth 100000 in
theorem open_strs {v : Value} {d : DataW H} {ps : List MemPlace} {r : Reach} {b0 : Nat} (hval : Value.okWide Tryz.prog W r b0 24 v) (h : DataW.Trod enc Tryz.prog W base sp held 24 v d ps) (hw : Wts Tryz.prog 24 d) :
    ∃ l : List ByteArray, SL encS W.heap v l ∧ SFit l := by
  obtain ⟨n, hn⟩ := cell_arg Tryz.underlying24 hval h
  obtain ⟨l, sl, g, nl⟩ := open_cell (k := 1) (en := encS) Tryz.underlying24 (by kernel_rfl) (by decide) encS_len (fun n cs x h hw => open_s h hw) hn hw
  have b : Tryz.prog.bytesOf 9 = 16 := by kernel_rfl
  rw [b] at nl
  have := reachBytes_lt
  exact ⟨l, sl, ⟨by omega, fun x hx => by have := g x hx; omega⟩⟩
end

end Go.Proofs.YtgmkldaonkbjgaaGreatDoor
namespace Go.Proofs.YtgmkldaonkbjgaaGreatDoor
open Go Go.Sx Go.ChangeShapes Go.WideShapes Go.ChangeAt Go.RowKit

theorem bm_params : ∀ t ∈ Tryz.f4.params.toList, Tryz.prog.readableRec t = true ∧ t < Tryz.prog.types.size := by
  rw [Tryz.params4]
  intro t ht
  have ht : t ∈ [30, 2, 24] := ht
  rcases List.mem_cons.1 ht with h | h
  · subst h; exact ⟨by kernel_rfl, of_decide_eq_true (by kernel_rfl)⟩
  rcases List.mem_cons.1 h with h | h
  · subst h; exact ⟨by kernel_rfl, of_decide_eq_true (by kernel_rfl)⟩
  have h := List.mem_singleton.1 h
  subst h; exact ⟨by kernel_rfl, of_decide_eq_true (by kernel_rfl)⟩

set_option maxRecDepth 100000 in
theorem bm_law (H : Type) (enc : TypeId × Value → H) (W : World) (base : Nat) (args : Array Value) (ds gs : List (DataW H)) (before : List MemPlace)
    (hval : ∀ (j : Nat) t v, Tryz.f4.params[j]? = some t → args[j]? = some v → Value.okWide Tryz.prog W .any base t v)
    (hW : DataW.Whole enc Tryz.prog Tryz.f4.params.toList Rows.basicsManySpec.vars false W args.toList ds gs before)
    (hL : laidMetH Tryz.prog laid5 W)
    (hsz : (DataW.weightsEach Tryz.prog (Tryz.f4.params.toList ++ (OpenSpec.ofChange Rows.basicsManySpec).bare.plain.varTypes Tryz.prog) (ds ++ gs)).all (· ≤ reachBytes) = true) :
    Calls Tryz.prog 4 args W fun e W' => ∃ v, e = .returned v ∧ Rows.basicsManySpec.post enc Tryz.prog Tryz.f4 false true false false W args v W' := by
  refine lift_law (tb := 4) laidOut bm_params rfl Tryz.underlying4 rfl
    (fun l hl => by
      rw [Tryz.params4] at hl
      match l, hl with
      | [_, _, _], _ => rfl) hW ?_
  obtain ⟨p, q, hA, hV, _, _, _⟩ := hW
  obtain ⟨rfl, rfl⟩ := trodVars_none hV
  rw [Tryz.params4] at hA hval hsz
  obtain ⟨v0, vs0, d0, ds0, p0, q0, hargs, rfl, rfl, h0, r0⟩ := trodAll_cons hA
  obtain ⟨v1, vs1, d1, ds1, p1, q1, rfl, rfl, rfl, h1, r1⟩ := trodAll_cons r0
  obtain ⟨v2, vs2, d2, ds2, p2, q2, rfl, rfl, rfl, h2, r2⟩ := trodAll_cons r1
  obtain ⟨rfl, rfl, rfl⟩ := trodAll_nil r2
  obtain rfl : args = #[v0, v1, v2] := by cases args; simp_all
  obtain ⟨l, sl, g, f, hun⟩ := open_entries (hval 0 30 v0 rfl rfl) h0 (wts_each hsz (j := 0) rfl rfl)
  obtain ⟨now, rfl⟩ := int_arg Tryz.underlying2 (hval 1 2 v1 rfl rfl)
  obtain ⟨A, sa, fa⟩ := open_strs (hval 2 24 v2 rfl rfl) h2 (wts_each hsz (j := 2) rfl rfl)
  exact BasicsMany_calls sl sa g f fa hun (laidN_of hL)

noncomputable def bmArgs : Array Value := #[.slice none 0 0, .int .i64 0, .slice none 0 0]

theorem bm_reads (os : Os) {H : Type} (enc : TypeId × Value → H) : ∃ places, DataW.whole enc Tryz.prog ((laidWorld os).forCall (fun _ _ => 0) ⟨#[], bmArgs, []⟩).memory Tryz.f4.params.toList Rows.basicsManySpec.vars false bmArgs.toList 8 =
    some ([.nil, .lit (.int .i64 0), .nil], [], places) :=
  ⟨[], by kernel_rfl⟩

set_option maxRecDepth 100000 in
theorem bm_lifted (os : Os) (started : os.Started) (H : Type) (enc : TypeId × Value → H) (F : Stop.Interp) :
    ReturnsInHanded {} Tryz.checked os 4 .any ((OpenSpec.ofChange Rows.basicsManySpec).preRow enc Tryz.prog Tryz.f4 Rows.basicsManyRow.domain false Rows.basicsManyRow.laid) (((OpenSpec.ofChange Rows.basicsManySpec).at F).post enc Tryz.prog Tryz.f4 false true false false) := by
  obtain ⟨places, hx⟩ := bm_reads os enc
  refine returnsInHanded_of_row (C := Tryz.checked) (s := OpenSpec.ofChange Rows.basicsManySpec) own started (by kernel_rfl) Tryz.func4
    (witness_row_at (enc := enc) (C := Tryz.checked) false (laidWorld os) bmArgs rfl (by kernel_rfl) (by kernel_rfl) (by kernel_rfl)
      (OpenSpec.preRow_of_cond 8 hx (by kernel_rfl) (fun k hk => by cases hk) (by kernel_rfl) (laid_met os bmArgs))) ?_
  intro W base args ds gs before hval hW _ _ hsz hL _ _
  exact bm_law H enc W base args ds gs before hval hW hL hsz

theorem bm_said : Rows.BasicsManySaid :=
  OpenClaim.holds_of_cond 4 Tryz.f4 rfl rfl rfl rfl rfl rfl rfl ⟨rfl, rfl, rfl, rfl, rfl⟩ rfl rfl rfl rfl rfl (by kernel_rfl) Tryz.func4 (by kernel_rfl)
    (of_decide_eq_true (by kernel_rfl)) (by unfold Func.isWrapper; first | (rw [if_pos (by decide +kernel)]; kernel_rfl) | (rw [if_neg (by decide +kernel)]; exact ⟨rfl, rfl⟩))
    (fun os started H enc _ F => by rw [OpenClaim.pre_eq_preRow]; exact bm_lifted os started H enc F)

theorem bm_plain (f : FuncId) (fn : Func) (hf : Tryz.pinned.checked.prog.funcNamed "tabor/taborlaw08.BasicsMany" = some f) (hfn : Tryz.pinned.checked.prog.funcs[f]? = some fn) :
    true = Tryz.pinned.checked.prog.looks [] ∧ ∀ (j : Nat) t, fn.params[j]? = some t → Tryz.pinned.checked.prog.wantsStandIn t = false := by
  obtain rfl : f = 4 := Option.some.inj ((show Tryz.prog.funcNamed "tabor/taborlaw08.BasicsMany" = some 4 by kernel_rfl).symm.trans hf) |>.symm
  obtain rfl : fn = Tryz.f4 := (Option.some.inj (Tryz.func4.symm.trans hfn)).symm
  refine ⟨by kernel_rfl, fun j t ht => ?_⟩
  rw [Tryz.params4] at ht
  have ht : t ∈ [30, 2, 24] := by simpa using Array.mem_of_getElem? ht
  rcases List.mem_cons.1 ht with h | h
  · subst h; exact (show Tryz.prog.wantsStandIn 30 = false by kernel_rfl)
  rcases List.mem_cons.1 h with h | h
  · subst h; exact (show Tryz.prog.wantsStandIn 2 = false by kernel_rfl)
  have h := List.mem_singleton.1 h
  subst h; exact (show Tryz.prog.wantsStandIn 24 = false by kernel_rfl)

theorem bm_card : Rows.BasicsManyCardSaid :=
  Claim7.holds_tied_plain_at .later [] _ _ _ _ bm_said (fun _ h => by cases h) (by kernel_rfl) (fun _ h => by cases h) basicsMany_row_tie rfl ⟨rfl, rfl⟩ (by kernel_rfl) rfl bm_plain (by kernel_rfl)
#print axioms bm_card
end Go.Proofs.YtgmkldaonkbjgaaGreatDoor
